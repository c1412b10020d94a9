/- The functions of the tables' laws, told as plain functions. -/
import Derived.Test.YtmjignphadnadaaG2
import Derived.Test.YtmjignphadnadaaF22
set_option linter.unusedVariables false
set_option linter.unusedSimpArgs false
namespace Go.Proofs.YtmjignphadnadaaF
open Go Go.Proofs
set_option maxRecDepth 100000

theorem u22 : E.und 22 = some (.slice 38) := by kernel_rfl
theorem u29 : E.und 29 = some (.slice 5) := by kernel_rfl
theorem u39 : E.und 39 = some (.slice 3) := by kernel_rfl
theorem u43 : E.und 43 = some (.slice 39) := by kernel_rfl
theorem u47 : E.und 47 = some (.slice 51) := by kernel_rfl
-- 28 "brindlewood/tables.fault"
abbrev P28 (N : Nat) (X : List Nat) (r : (Int × Int)) (v : Value) (s : St) : Prop := v = (Value.agg #[(Value.int .i64 r.1), (Value.int .i64 r.2)])
def p28 : Nat → Int → Int → Option (Int × Int)
  | 0, _, _ => none
  | n + 1, p0, p1 => ((some (p0, p1)))
theorem t28 (k : Nat) (p0 : Int) (p1 : Int) (s0 : St) :
    Rf (p28 k p0 p1) (fun _ => True) (fun r => RtC s0.next [] [] s0 (P28 s0.next [] r)) (acall E k 28 [(Value.int .i64 p0), (Value.int .i64 p1)] s0) := by
  cases k with
  | zero => exact Rf.none
  | succ n =>
    rw [e28 n]
    rw [p28]
    refine Rf.gen fun H Q hH hQ => ?_
    have C0 : Cx s0.next [] [] s0 s0 [] [] [] := Cx.start s0
    refine Rf.new C0 fun s1 (C2 : Cx s0.next [] [] s0 s1 [(s0.next, AObj.box 24 [(Value.int .i64 0), (Value.int .i64 0)])] [] []) => ?_
    refine Rf.sto 0 C2 rfl (by simp) rfl fun s4 (C5 : Cx s0.next [] [] s0 s4 [(s0.next, AObj.box 24 [(Value.int .i64 p0), (Value.int .i64 p1)])] [] []) => ?_
    refine Rf.ldI (C5.at m0 rfl) ?_
    refine Rf.ldI (C5.at m0 rfl) ?_
    subst hH; subst hQ
    exact Rf.leaf fun _ => Ev.done (Rf.ret C5 rfl)
-- 27 "brindlewood/tables.checkLines"
abbrev Inv27_1 (s0 : St) (p0 : (List (Int × Int))) (A0 : Option Addr) (c0 : Nat) (h0 : Sr (rP (rI .i64) (rI .i64)) s0 A0 c0 p0) (i15 : Nat) (t : Int) (g : Regs) (s : St) : Prop := g = (rg 64 [(0, (Value.slice A0 (p0).length c0)), (2, (Value.pointer (some ⟨i15, 0, none⟩))), (9, (Value.slice A0 (p0).length c0)), (10, (Value.int .i64 ((p0).length : Nat))), (11, (Value.int .i64 t))]) ∧ Cx s0.next [] [] s0 s [(i15, AObj.box 24 [(Value.int .i64 0), (Value.int .i64 0)])] [] []
abbrev Ex27_1 (s0 : St) (p0 : (List (Int × Int))) (A0 : Option Addr) (c0 : Nat) (h0 : Sr (rP (rI .i64) (rI .i64)) s0 A0 c0 p0) (i15 : Nat) (t : (Int ⊕ (Int × Int))) (e : X) (g : Regs) (s : St) : Prop := match t with
  | (.inl t) => e = .exit 0 ∧ g = (rg 64 [(0, (Value.slice A0 (p0).length c0)), (2, (Value.pointer (some ⟨i15, 0, none⟩))), (9, (Value.slice A0 (p0).length c0)), (10, (Value.int .i64 ((p0).length : Nat))), (11, (Value.int .i64 t)), (12, (Value.bool false))]) ∧ Cx s0.next [] [] s0 s [(i15, AObj.box 24 [(Value.int .i64 0), (Value.int .i64 0)])] [] []
  | (.inr t) => e = .ret ∧ g = (rg 64 [(2, (Value.pointer (some ⟨i15, 0, none⟩)))]) ∧ Cx s0.next [] [] s0 s [(i15, AObj.box 24 [(Value.int .i64 t.1), (Value.int .i64 t.2)])] [] []
theorem x27_1 (s0 : St) (p0 : (List (Int × Int))) (A0 : Option Addr) (c0 : Nat) (h0 : Sr (rP (rI .i64) (rI .i64)) s0 A0 c0 p0) (i15 : Nat) (t : (Int ⊕ (Int × Int))) (e : X) (g : Regs) (s : St) (h : Ex27_1 s0 p0 A0 c0 h0 i15 t e g s) : e ≠ .normal := by
  rcases t with t | t
  · obtain ⟨h, _⟩ := h
    rw [h]; intro hh; cases hh
  · obtain ⟨h, _⟩ := h
    rw [h]; intro hh; cases hh
def pb27_1 (n : Nat) (p0 : (List (Int × Int))) (t : Int) : Option (Int ⊕ (Int ⊕ (Int × Int))) :=
  (if (decide ((t : Int) < ((p0).length : Nat))) then ((rd p0 t (fun x83 => (pj (fun (b117 : Bool) => if b117 then ((p28 n 4 t).bind fun r120 => (((some (.inr (.inr (r120.1, r120.2))))))) else (pj (fun (b172 : Bool) => if b172 then ((p28 n 11 t).bind fun r175 => (((some (.inr (.inr (r175.1, r175.2))))))) else (((some (.inl (IntKind.wrap .i64 (t + 1))))))) (fun J171 => if ((t : Int) == 0) then (if ((x83.1 : Int) != 0) then ((J171 true)) else (if (decide ((t : Int) > 0)) then (rd p0 (IntKind.wrap .i64 (t - 1)) (fun x134 => (J171 (decide ((x83.1 : Int) ≤ x134.1))))) else ((J171 false)))) else (if (decide ((t : Int) > 0)) then (rd p0 (IntKind.wrap .i64 (t - 1)) (fun x154 => (J171 (decide ((x83.1 : Int) ≤ x154.1))))) else ((J171 false)))))) (fun J116 => if (decide ((x83.1 : Int) < 0)) then ((J116 true)) else (if (decide ((x83.1 : Int) ≥ 60000)) then ((J116 true)) else (if (decide ((x83.2 : Int) < 1)) then ((J116 true)) else ((J116 (decide ((x83.2 : Int) > 16000))))))))))) else (((some (.inr (.inl t))))))
theorem b27_1 (n : Nat) (s0 : St) (p0 : (List (Int × Int))) (A0 : Option Addr) (c0 : Nat) (h0 : Sr (rP (rI .i64) (rI .i64)) s0 A0 c0 p0) (i15 : Nat) (x14 : Int) (g : Regs) (s80 : St) (K : Kont) (Q : Out → St → Prop) (h : Inv27_1 s0 p0 A0 c0 h0 i15 x14 g s80) :
    Rf (pb27_1 n p0 x14) (fun r => ∀ e g' s', LK (Inv27_1 s0 p0 A0 c0 h0 i15) (Ex27_1 s0 p0 A0 c0 h0 i15) r e g' s' → Ev (K e g' s') Q) (fun _ => Q) (kBody E 27 n [.b, .b, .a, .b, .a, .a] g s80 K) := by
  obtain ⟨rfl, C81⟩ := h
  rw [e27_body0 n]
  unfold pb27_1
  refine Rf.gen fun H Q hH hQ => ?_
  refine Rf.ite ?_ ?_
  · refine Rf.elt (r := (rP (rI .i64) (rI .i64))) (C81.sr0 rfl h0) rfl fun x83 i84 o85 c86 r87 h88 => ?_
    obtain ⟨c93, c94, rfl, r95, r96⟩ := rP_elim r87
    obtain rfl := rI_elim r95
    obtain rfl := rI_elim r96
    refine Rf.ldI (h88.at 0 rfl) ?_
    refine Rf.ldI (h88.at 1 rfl) ?_
    refine Rf.new C81 fun s99 (C100 : Cx s0.next [] [] s0 s99 [(s80.next, AObj.box 38 [(Value.int .i64 0), (Value.int .i64 0)]), (i15, AObj.box 24 [(Value.int .i64 0), (Value.int .i64 0)])] [] []) => ?_
    refine Rf.sto 0 C100 rfl (by simp) rfl fun s102 (C103 : Cx s0.next [] [] s0 s102 [(s80.next, AObj.box 38 [(Value.int .i64 x83.1), (Value.int .i64 x83.2)]), (i15, AObj.box 24 [(Value.int .i64 0), (Value.int .i64 0)])] [] []) => ?_
    refine Rf.pj fun J116 J116' hJ116 hJ116' => ?_
    have J116h : ∀ (b117 : Bool) (_ : Cx s0.next [] [] s0 s102 [(s80.next, AObj.box 38 [(Value.int .i64 x83.1), (Value.int .i64 x83.2)]), (i15, AObj.box 24 [(Value.int .i64 0), (Value.int .i64 0)])] [] []), Rf (J116 b117) H Q (J116' b117) := by
      subst hJ116
      subst hJ116'
      intro b117 C119
      refine Rf.ite ?_ ?_
      · refine Rf.call0 C119 (t28 n 4 x14 s102) ?_
        rintro r120 _ s121 rfl h124
        have C125 : Cx s0.next [] [] s0 s121 [(s80.next, AObj.box 38 [(Value.int .i64 x83.1), (Value.int .i64 x83.2)]), (i15, AObj.box 24 [(Value.int .i64 0), (Value.int .i64 0)])] [] [] := h124 [] (by simp) List.Pairwise.nil
        refine (Rf.asAgg (Rf.unc (Rf.asI (Rf.unc (Rf.asI (Rf.unn ?_))))))
        refine Rf.sto 1 C125 rfl (by simp) rfl fun s126 (C127 : Cx s0.next [] [] s0 s126 [(s80.next, AObj.box 38 [(Value.int .i64 x83.1), (Value.int .i64 x83.2)]), (i15, AObj.box 24 [(Value.int .i64 r120.1), (Value.int .i64 r120.2)])] [] []) => ?_
        subst hH; subst hQ
        exact Rf.leaf fun h => h _ _ _ ⟨rfl, rfl, (C127.sub (List.Sublist.cons _ (List.Sublist.cons_cons _ List.Sublist.slnil)) (List.Sublist.refl _) (List.Sublist.refl _))⟩
      · refine Rf.pj fun J171 J171' hJ171 hJ171' => ?_
        have J171h : ∀ (b172 : Bool) (_ : Cx s0.next [] [] s0 s102 [(i15, AObj.box 24 [(Value.int .i64 0), (Value.int .i64 0)])] [] []), Rf (J171 b172) H Q (J171' b172) := by
          subst hJ171
          subst hJ171'
          intro b172 C174
          refine Rf.ite ?_ ?_
          · refine Rf.call0 C174 (t28 n 11 x14 s102) ?_
            rintro r175 _ s176 rfl h179
            have C180 : Cx s0.next [] [] s0 s176 [(i15, AObj.box 24 [(Value.int .i64 0), (Value.int .i64 0)])] [] [] := h179 [] (by simp) List.Pairwise.nil
            refine (Rf.asAgg (Rf.unc (Rf.asI (Rf.unc (Rf.asI (Rf.unn ?_))))))
            refine Rf.sto 0 C180 rfl (by simp) rfl fun s181 (C182 : Cx s0.next [] [] s0 s181 [(i15, AObj.box 24 [(Value.int .i64 r175.1), (Value.int .i64 r175.2)])] [] []) => ?_
            subst hH; subst hQ
            exact Rf.leaf fun h => h _ _ _ ⟨rfl, rfl, (C182.sub (List.Sublist.refl _) (List.Sublist.refl _) (List.Sublist.refl _))⟩
          · subst hH; subst hQ
            exact Rf.leaf fun h => h _ _ _ ⟨rfl, rfl, (C174.sub (List.Sublist.refl _) (List.Sublist.refl _) (List.Sublist.refl _))⟩
        clear hJ171 hJ171'
        refine Rf.ite ?_ ?_
        · refine Rf.ldI (C119.at m0 rfl) ?_
          refine Rf.ite ?_ ?_
          · exact J171h true (C119.sub (List.Sublist.cons _ (List.Sublist.cons_cons _ List.Sublist.slnil)) (List.Sublist.refl _) (List.Sublist.refl _))
          · refine Rf.ite ?_ ?_
            · refine Rf.ldI (C119.at m0 rfl) ?_
              refine Rf.elt (r := (rP (rI .i64) (rI .i64))) (C119.sr0 rfl h0) rfl fun x134 i135 o136 c137 r138 h139 => ?_
              obtain ⟨c144, c145, rfl, r146, r147⟩ := rP_elim r138
              obtain rfl := rI_elim r146
              obtain rfl := rI_elim r147
              refine Rf.ldI (h139.at 0 rfl) ?_
              exact J171h (decide ((x83.1 : Int) ≤ x134.1)) (C119.sub (List.Sublist.cons _ (List.Sublist.cons_cons _ List.Sublist.slnil)) (List.Sublist.refl _) (List.Sublist.refl _))
            · exact J171h false (C119.sub (List.Sublist.cons _ (List.Sublist.cons_cons _ List.Sublist.slnil)) (List.Sublist.refl _) (List.Sublist.refl _))
        · refine Rf.ite ?_ ?_
          · refine Rf.ldI (C119.at m0 rfl) ?_
            refine Rf.elt (r := (rP (rI .i64) (rI .i64))) (C119.sr0 rfl h0) rfl fun x154 i155 o156 c157 r158 h159 => ?_
            obtain ⟨c164, c165, rfl, r166, r167⟩ := rP_elim r158
            obtain rfl := rI_elim r166
            obtain rfl := rI_elim r167
            refine Rf.ldI (h159.at 0 rfl) ?_
            exact J171h (decide ((x83.1 : Int) ≤ x154.1)) (C119.sub (List.Sublist.cons _ (List.Sublist.cons_cons _ List.Sublist.slnil)) (List.Sublist.refl _) (List.Sublist.refl _))
          · exact J171h false (C119.sub (List.Sublist.cons _ (List.Sublist.cons_cons _ List.Sublist.slnil)) (List.Sublist.refl _) (List.Sublist.refl _))
    clear hJ116 hJ116'
    refine Rf.ldI (C103.at m0 rfl) ?_
    refine Rf.ite ?_ ?_
    · exact J116h true (C103.sub (List.Sublist.refl _) (List.Sublist.refl _) (List.Sublist.refl _))
    · refine Rf.ldI (C103.at m0 rfl) ?_
      refine Rf.ite ?_ ?_
      · exact J116h true (C103.sub (List.Sublist.refl _) (List.Sublist.refl _) (List.Sublist.refl _))
      · refine Rf.ldI (C103.at m0 rfl) ?_
        refine Rf.ite ?_ ?_
        · exact J116h true (C103.sub (List.Sublist.refl _) (List.Sublist.refl _) (List.Sublist.refl _))
        · refine Rf.ldI (C103.at m0 rfl) ?_
          exact J116h (decide ((x83.2 : Int) > 16000)) (C103.sub (List.Sublist.refl _) (List.Sublist.refl _) (List.Sublist.refl _))
  · subst hH; subst hQ
    exact Rf.leaf fun h => h _ _ _ ⟨rfl, rfl, (C81.sub (List.Sublist.refl _) (List.Sublist.refl _) (List.Sublist.refl _))⟩
abbrev P27 (N : Nat) (X : List Nat) (r : (Int × Int)) (v : Value) (s : St) : Prop := v = (Value.agg #[(Value.int .i64 r.1), (Value.int .i64 r.2)])
def p27 : Nat → (List (Int × Int)) → Option (Int × Int)
  | 0, _ => none
  | n + 1, p0 => ((if (decide ((((p0).length : Nat) : Int) > 60000)) then ((p28 n 2 (-1)).bind fun r4 => ((some (r4.1, r4.2)))) else ((((loopP (pb27_1 n p0) n 0).bind fun t326 => match t326 with | (.inl t186) => ((some (0, 0))) | (.inr t257) => (some (t257.1, t257.2)))))))
theorem t27 (k : Nat) (p0 : (List (Int × Int))) (s0 : St) {A0 : Option Addr} {c0 : Nat} (h0 : Sr (rP (rI .i64) (rI .i64)) s0 A0 c0 p0) :
    Rf (p27 k p0) (fun _ => True) (fun r => RtC s0.next [] [] s0 (P27 s0.next [] r)) (acall E k 27 [(Value.slice A0 (p0).length c0)] s0) := by
  cases k with
  | zero => exact Rf.none
  | succ n =>
    rw [e27 n]
    rw [p27]
    refine Rf.gen fun H Q hH hQ => ?_
    have C0 : Cx s0.next [] [] s0 s0 [] [] [] := Cx.start s0
    refine Rf.new C0 fun s1 (C2 : Cx s0.next [] [] s0 s1 [(s0.next, AObj.box 24 [(Value.int .i64 0), (Value.int .i64 0)])] [] []) => ?_
    refine Rf.ite ?_ ?_
    · refine Rf.call0 C2 (t28 n 2 (-1) s1) ?_
      rintro r4 _ s5 rfl h8
      have C9 : Cx s0.next [] [] s0 s5 [(s0.next, AObj.box 24 [(Value.int .i64 0), (Value.int .i64 0)])] [] [] := h8 [] (by simp) List.Pairwise.nil
      refine (Rf.asAgg (Rf.unc (Rf.asI (Rf.unc (Rf.asI (Rf.unn ?_))))))
      refine Rf.sto 0 C9 rfl (by simp) rfl fun s10 (C11 : Cx s0.next [] [] s0 s10 [(s0.next, AObj.box 24 [(Value.int .i64 r4.1), (Value.int .i64 r4.2)])] [] []) => ?_
      refine Rf.ldI (C11.at m0 rfl) ?_
      refine Rf.ldI (C11.at m0 rfl) ?_
      subst hH; subst hQ
      exact Rf.leaf fun _ => Ev.done (Rf.ret C11 rfl)
    · refine Rf.loop (Inv := Inv27_1 s0 p0 A0 c0 h0 s0.next) (Ex := Ex27_1 s0 p0 A0 c0 h0 s0.next) (x27_1 s0 p0 A0 c0 h0 s0.next) (fun t g s K Q h => b27_1 n s0 p0 A0 c0 h0 s0.next t g s K Q h) n _ _ _ ⟨rfl, (C2.sub (List.Sublist.refl _) (List.Sublist.refl _) (List.Sublist.refl _))⟩ ?_
      intro t e g s h
      rcases t with t186 | t257
      · generalize s = s251 at h ⊢
        obtain ⟨rfl, rfl, C252⟩ := h
        rw [e27_after0_exit0 n]
        refine Rf.sto 0 C252 rfl (by simp) rfl fun s253 (C254 : Cx s0.next [] [] s0 s253 [(s0.next, AObj.box 24 [(Value.int .i64 0), (Value.int .i64 0)])] [] []) => ?_
        refine Rf.ldI (C254.at m0 rfl) ?_
        refine Rf.ldI (C254.at m0 rfl) ?_
        subst hH; subst hQ
        exact Rf.leaf fun _ => Ev.done (Rf.ret C254 rfl)
      · generalize s = s322 at h ⊢
        obtain ⟨rfl, rfl, C323⟩ := h
        rw [e27_after0_ret n]
        refine Rf.ldI (C323.at m0 rfl) ?_
        refine Rf.ldI (C323.at m0 rfl) ?_
        subst hH; subst hQ
        exact Rf.leaf fun _ => Ev.done (Rf.ret C323 rfl)
-- 30 "brindlewood/tables.Line$1"
abbrev P30 (N : Nat) (X : List Nat) (r : Int) (v : Value) (s : St) : Prop := v = (Value.int .i64 r)
def p30 : Nat → (Int × Int) → Int → Option Int
  | 0, _, _ => none
  | n + 1, p0, p1 => ((some (IntKind.wrap .i64 (p0.1 - p1))))
theorem t30 (k : Nat) (p0 : (Int × Int)) (p1 : Int) (s0 : St) :
    Rf (p30 k p0 p1) (fun _ => True) (fun r => RtC s0.next [] [] s0 (P30 s0.next [] r)) (acall E k 30 [(Value.agg #[(Value.int .i64 p0.1), (Value.int .i64 p0.2)]), (Value.int .i64 p1)] s0) := by
  cases k with
  | zero => exact Rf.none
  | succ n =>
    rw [e30 n]
    rw [p30]
    refine Rf.gen fun H Q hH hQ => ?_
    have C0 : Cx s0.next [] [] s0 s0 [] [] [] := Cx.start s0
    refine Rf.new C0 fun s1 (C2 : Cx s0.next [] [] s0 s1 [(s0.next, AObj.box 38 [(Value.int .i64 p0.1), (Value.int .i64 p0.2)])] [] []) => ?_
    refine Rf.ldI (C2.at m0 rfl) ?_
    subst hH; subst hQ
    exact Rf.leaf fun _ => Ev.done (Rf.ret C2 rfl)
-- 29_30 "slices.BinarySearchFunc[[]brindlewood/api.LineMark,brindlewood/api.LineMark,int]"
abbrev Inv29_30_1 (s0 : St) (p0 : (List (Int × Int))) (p1 : Int) (A0 : Option Addr) (c0 : Nat) (h0 : Sr (rP (rI .i64) (rI .i64)) s0 A0 c0 p0)  (t : (Int × Int)) (g : Regs) (s : St) : Prop := g = (rg 49 [(0, (Value.slice A0 (p0).length c0)), (1, (Value.int .i64 p1)), (2, (Value.func (.func 30) #[] #[])), (8, (Value.int .i64 ((p0).length : Nat))), (9, (Value.int .i64 t.1)), (10, (Value.int .i64 t.2))]) ∧ Cx s0.next [] [] s0 s [] [] []
abbrev Ex29_30_1 (s0 : St) (p0 : (List (Int × Int))) (p1 : Int) (A0 : Option Addr) (c0 : Nat) (h0 : Sr (rP (rI .i64) (rI .i64)) s0 A0 c0 p0)  (t : (Int × Int)) (e : X) (g : Regs) (s : St) : Prop := e = .exit 0 ∧ g = (rg 49 [(0, (Value.slice A0 (p0).length c0)), (1, (Value.int .i64 p1)), (2, (Value.func (.func 30) #[] #[])), (8, (Value.int .i64 ((p0).length : Nat))), (9, (Value.int .i64 t.1)), (10, (Value.int .i64 t.2)), (17, (Value.bool false))]) ∧ Cx s0.next [] [] s0 s [] [] []
theorem x29_30_1 (s0 : St) (p0 : (List (Int × Int))) (p1 : Int) (A0 : Option Addr) (c0 : Nat) (h0 : Sr (rP (rI .i64) (rI .i64)) s0 A0 c0 p0)  (t : (Int × Int)) (e : X) (g : Regs) (s : St) (h : Ex29_30_1 s0 p0 p1 A0 c0 h0  t e g s) : e ≠ .normal := by
  obtain ⟨h, _⟩ := h
  rw [h]; intro hh; cases hh
def pb29_30_1 (n : Nat) (p0 : (List (Int × Int))) (p1 : Int) (t : (Int × Int)) : Option ((Int × Int) ⊕ (Int × Int)) :=
  (if (decide ((t.1 : Int) < t.2)) then ((shrP .u64 (IntKind.wrap .u64 (IntKind.wrap .i64 (t.1 + t.2))) 1 (fun x55 => (rd p0 (IntKind.wrap .i64 x55) (fun x56 => (p30 n (x56.1, x56.2) p1).bind fun r72 => (if (decide ((r72 : Int) < 0)) then ((some (.inl ((IntKind.wrap .i64 ((IntKind.wrap .i64 x55) + 1)), t.2)))) else ((some (.inl (t.1, (IntKind.wrap .i64 x55))))))))))) else (((some (.inr (t.1, t.2))))))
theorem b29_30_1 (n : Nat) (s0 : St) (p0 : (List (Int × Int))) (p1 : Int) (A0 : Option Addr) (c0 : Nat) (h0 : Sr (rP (rI .i64) (rI .i64)) s0 A0 c0 p0)  (t : (Int × Int)) (g : Regs) (s52 : St) (K : Kont) (Q : Out → St → Prop) (h : Inv29_30_1 s0 p0 p1 A0 c0 h0  t g s52) :
    Rf (pb29_30_1 n p0 p1 t) (fun r => ∀ e g' s', LK (Inv29_30_1 s0 p0 p1 A0 c0 h0 ) (Ex29_30_1 s0 p0 p1 A0 c0 h0 ) r e g' s' → Ev (K e g' s') Q) (fun _ => Q) (kBody E 29 n [.b, .b, .b, .a, .a, .a] g s52 K) := by
  obtain ⟨x1, x2⟩ := t
  obtain ⟨rfl, C53⟩ := h
  rw [e29_30_body0 n]
  unfold pb29_30_1
  refine Rf.gen fun H Q hH hQ => ?_
  try dsimp only
  refine Rf.ite ?_ ?_
  · refine Rf.shrI fun x55 => ?_
    refine Rf.elt (r := (rP (rI .i64) (rI .i64))) (C53.sr0 rfl h0) rfl fun x56 i57 o58 c59 r60 h61 => ?_
    obtain ⟨c66, c67, rfl, r68, r69⟩ := rP_elim r60
    obtain rfl := rI_elim r68
    obtain rfl := rI_elim r69
    refine Rf.ldI (h61.at 0 rfl) ?_
    refine Rf.ldI (h61.at 1 rfl) ?_
    refine Rf.call0 C53 (t30 n (x56.1, x56.2) p1 s52) ?_
    rintro r72 _ s73 rfl h75
    have C76 : Cx s0.next [] [] s0 s73 [] [] [] := h75 [] (by simp) List.Pairwise.nil
    refine (Rf.asI ?_)
    refine Rf.ite ?_ ?_
    · subst hH; subst hQ
      exact Rf.leaf fun h => h _ _ _ ⟨rfl, rfl, (C76.sub (List.Sublist.refl _) (List.Sublist.refl _) (List.Sublist.refl _))⟩
    · subst hH; subst hQ
      exact Rf.leaf fun h => h _ _ _ ⟨rfl, rfl, (C76.sub (List.Sublist.refl _) (List.Sublist.refl _) (List.Sublist.refl _))⟩
  · subst hH; subst hQ
    exact Rf.leaf fun h => h _ _ _ ⟨rfl, rfl, (C53.sub (List.Sublist.refl _) (List.Sublist.refl _) (List.Sublist.refl _))⟩
abbrev P29_30 (N : Nat) (X : List Nat) (r : (Int × Bool)) (v : Value) (s : St) : Prop := v = (Value.tuple #[(Value.int .i64 r.1), (Value.bool r.2)])
def p29_30 : Nat → (List (Int × Int)) → Int → Option (Int × Bool)
  | 0, _, _ => none
  | n + 1, p0, p1 => ((((loopP (pb29_30_1 n p0 p1) n (0, ((p0).length : Nat))).bind fun t79 => pj (fun (x153 : Int) (b154 : Bool) => some (x153, b154)) (fun J152 => if (decide ((t79.1 : Int) < ((p0).length : Nat))) then (rd p0 t79.1 (fun x131 => (p30 n (x131.1, x131.2) p1).bind fun r147 => (J152 t79.1 ((r147 : Int) == 0)))) else ((J152 t79.1 false))))))
theorem t29_30 (k : Nat) (p0 : (List (Int × Int))) (p1 : Int) (s0 : St) {A0 : Option Addr} {c0 : Nat} (h0 : Sr (rP (rI .i64) (rI .i64)) s0 A0 c0 p0) :
    Rf (p29_30 k p0 p1) (fun _ => True) (fun r => RtC s0.next [] [] s0 (P29_30 s0.next [] r)) (acall E k 29 [(Value.slice A0 (p0).length c0), (Value.int .i64 p1), (Value.func (.func 30) #[] #[])] s0) := by
  cases k with
  | zero => exact Rf.none
  | succ n =>
    rw [e29_30 n]
    rw [p29_30]
    refine Rf.gen fun H Q hH hQ => ?_
    have C0 : Cx s0.next [] [] s0 s0 [] [] [] := Cx.start s0
    refine Rf.loop (Inv := Inv29_30_1 s0 p0 p1 A0 c0 h0 ) (Ex := Ex29_30_1 s0 p0 p1 A0 c0 h0 ) (x29_30_1 s0 p0 p1 A0 c0 h0 ) (fun t g s K Q h => b29_30_1 n s0 p0 p1 A0 c0 h0  t g s K Q h) n _ _ _ ⟨rfl, (C0.sub (List.Sublist.refl _) (List.Sublist.refl _) (List.Sublist.refl _))⟩ ?_
    intro t79 e g s129 h
    obtain ⟨rfl, rfl, C130⟩ := h
    rw [e29_30_after0_exit0 n]
    refine Rf.pj fun J152 J152' hJ152 hJ152' => ?_
    have J152h : ∀ (x153 : Int) (b154 : Bool) (s157 : St) (_ : Cx s0.next [] [] s0 s157 [] [] []), Rf (J152 x153 b154) H Q (J152' x153 b154 s157) := by
      subst hJ152
      subst hJ152'
      intro x153 b154 s157 C158
      subst hH; subst hQ
      exact Rf.leaf fun _ => Ev.done (Rf.ret C158 rfl)
    clear hJ152 hJ152'
    refine Rf.ite ?_ ?_
    · refine Rf.elt (r := (rP (rI .i64) (rI .i64))) (C130.sr0 rfl h0) rfl fun x131 i132 o133 c134 r135 h136 => ?_
      obtain ⟨c141, c142, rfl, r143, r144⟩ := rP_elim r135
      obtain rfl := rI_elim r143
      obtain rfl := rI_elim r144
      refine Rf.ldI (h136.at 0 rfl) ?_
      refine Rf.ldI (h136.at 1 rfl) ?_
      refine Rf.call0 C130 (t30 n (x131.1, x131.2) p1 s129) ?_
      rintro r147 _ s148 rfl h150
      have C151 : Cx s0.next [] [] s0 s148 [] [] [] := h150 [] (by simp) List.Pairwise.nil
      refine (Rf.asI ?_)
      exact J152h t79.1 ((r147 : Int) == 0) _ (C151.sub (List.Sublist.refl _) (List.Sublist.refl _) (List.Sublist.refl _))
    · exact J152h t79.1 false _ (C130.sub (List.Sublist.refl _) (List.Sublist.refl _) (List.Sublist.refl _))
-- 6 "brindlewood/tables.Line"
abbrev P6 (N : Nat) (X : List Nat) (r : (Int × (Int × Int))) (v : Value) (s : St) : Prop := v = (Value.tuple #[(Value.int .i64 r.1), (Value.agg #[(Value.int .i64 r.2.1), (Value.int .i64 r.2.2)])])
def p6 : Nat → (List (Int × Int)) → Int → Option (Int × (Int × Int))
  | 0, _, _ => none
  | n + 1, p0, p1 => ((p27 n p0).bind fun r4 => ((if (!(((r4.1 : Int) == 0) && (((r4.2 : Int) == 0) && true))) then (((some (0, (r4.1, r4.2))))) else ((pj (fun (b24 : Bool) => if b24 then ((p28 n 4 (-2)).bind fun r27 => ((some (0, (r27.1, r27.2))))) else (((p29_30 n p0 p1).bind fun r37 => (pj (fun (x44 : Int) => (if (decide ((x44 : Int) < 0)) then ((p28 n 12 (-2)).bind fun r48 => ((some (0, (r48.1, r48.2))))) else ((rd p0 x44 (fun x58 => (some (x58.2, (0, 0)))))))) (fun J43 => (if (!r37.2) then ((J43 (IntKind.wrap .i64 (r37.1 - 1)))) else ((J43 r37.1)))))))) (fun J23 => if (decide ((p1 : Int) < 0)) then ((J23 true)) else ((J23 (decide ((p1 : Int) ≥ 60000))))))))))
theorem t6 (k : Nat) (p0 : (List (Int × Int))) (p1 : Int) (s0 : St) {A0 : Option Addr} {c0 : Nat} (h0 : Sr (rP (rI .i64) (rI .i64)) s0 A0 c0 p0) :
    Rf (p6 k p0 p1) (fun _ => True) (fun r => RtC s0.next [] [] s0 (P6 s0.next [] r)) (acall E k 6 [(Value.slice A0 (p0).length c0), (Value.int .i64 p1)] s0) := by
  cases k with
  | zero => exact Rf.none
  | succ n =>
    rw [e6 n]
    rw [p6]
    refine Rf.gen fun H Q hH hQ => ?_
    have C0 : Cx s0.next [] [] s0 s0 [] [] [] := Cx.start s0
    refine Rf.new C0 fun s1 (C2 : Cx s0.next [] [] s0 s1 [(s0.next, AObj.box 24 [(Value.int .i64 0), (Value.int .i64 0)])] [] []) => ?_
    refine Rf.call0 C2 (t27 n p0 s1 (C2.sr0 rfl h0)) ?_
    rintro r4 _ s5 rfl h8
    have C9 : Cx s0.next [] [] s0 s5 [(s0.next, AObj.box 24 [(Value.int .i64 0), (Value.int .i64 0)])] [] [] := h8 [] (by simp) List.Pairwise.nil
    refine (Rf.asAgg (Rf.unc (Rf.asI (Rf.unc (Rf.asI (Rf.unn ?_))))))
    refine Rf.new C9 fun s10 (C11 : Cx s0.next [] [] s0 s10 [(s5.next, AObj.box 24 [(Value.int .i64 0), (Value.int .i64 0)]), (s0.next, AObj.box 24 [(Value.int .i64 0), (Value.int .i64 0)])] [] []) => ?_
    refine Rf.sto 0 C11 rfl (by simp) rfl fun s13 (C14 : Cx s0.next [] [] s0 s13 [(s5.next, AObj.box 24 [(Value.int .i64 r4.1), (Value.int .i64 r4.2)]), (s0.next, AObj.box 24 [(Value.int .i64 0), (Value.int .i64 0)])] [] []) => ?_
    refine Rf.ldI (C14.at m0 rfl) ?_
    refine Rf.ldI (C14.at m0 rfl) ?_
    refine Rf.ite ?_ ?_
    · refine Rf.ldI (C14.at m0 rfl) ?_
      refine Rf.ldI (C14.at m0 rfl) ?_
      refine Rf.sto 1 C14 rfl (by simp) rfl fun s19 (C20 : Cx s0.next [] [] s0 s19 [(s5.next, AObj.box 24 [(Value.int .i64 r4.1), (Value.int .i64 r4.2)]), (s0.next, AObj.box 24 [(Value.int .i64 r4.1), (Value.int .i64 r4.2)])] [] []) => ?_
      refine Rf.ldI (C20.at m1 rfl) ?_
      refine Rf.ldI (C20.at m1 rfl) ?_
      subst hH; subst hQ
      exact Rf.leaf fun _ => Ev.done (Rf.ret C20 rfl)
    · refine Rf.pj fun J23 J23' hJ23 hJ23' => ?_
      have J23h : ∀ (b24 : Bool) (_ : Cx s0.next [] [] s0 s13 [(s0.next, AObj.box 24 [(Value.int .i64 0), (Value.int .i64 0)])] [] []), Rf (J23 b24) H Q (J23' b24) := by
        subst hJ23
        subst hJ23'
        intro b24 C26
        refine Rf.ite ?_ ?_
        · refine Rf.call0 C26 (t28 n 4 (-2) s13) ?_
          rintro r27 _ s28 rfl h31
          have C32 : Cx s0.next [] [] s0 s28 [(s0.next, AObj.box 24 [(Value.int .i64 0), (Value.int .i64 0)])] [] [] := h31 [] (by simp) List.Pairwise.nil
          refine (Rf.asAgg (Rf.unc (Rf.asI (Rf.unc (Rf.asI (Rf.unn ?_))))))
          refine Rf.sto 0 C32 rfl (by simp) rfl fun s33 (C34 : Cx s0.next [] [] s0 s33 [(s0.next, AObj.box 24 [(Value.int .i64 r27.1), (Value.int .i64 r27.2)])] [] []) => ?_
          refine Rf.ldI (C34.at m0 rfl) ?_
          refine Rf.ldI (C34.at m0 rfl) ?_
          subst hH; subst hQ
          exact Rf.leaf fun _ => Ev.done (Rf.ret C34 rfl)
        · refine Rf.call0 C26 (t29_30 n p0 p1 s13 (C26.sr0 rfl h0)) ?_
          rintro r37 _ s38 rfl h41
          have C42 : Cx s0.next [] [] s0 s38 [(s0.next, AObj.box 24 [(Value.int .i64 0), (Value.int .i64 0)])] [] [] := h41 [] (by simp) List.Pairwise.nil
          refine (Rf.asTup (Rf.unc (Rf.asI (Rf.unc (Rf.asB (Rf.unn ?_))))))
          refine Rf.pj fun J43 J43' hJ43 hJ43' => ?_
          have J43h : ∀ (e46 : Value) (x44 : Int) (_ : Cx s0.next [] [] s0 s38 [(s0.next, AObj.box 24 [(Value.int .i64 0), (Value.int .i64 0)])] [] []), Rf (J43 x44) H Q (J43' x44 e46) := by
            subst hJ43
            subst hJ43'
            intro e46 x44 C47
            refine Rf.ite ?_ ?_
            · refine Rf.call0 C47 (t28 n 12 (-2) s38) ?_
              rintro r48 _ s49 rfl h52
              have C53 : Cx s0.next [] [] s0 s49 [(s0.next, AObj.box 24 [(Value.int .i64 0), (Value.int .i64 0)])] [] [] := h52 [] (by simp) List.Pairwise.nil
              refine (Rf.asAgg (Rf.unc (Rf.asI (Rf.unc (Rf.asI (Rf.unn ?_))))))
              refine Rf.sto 0 C53 rfl (by simp) rfl fun s54 (C55 : Cx s0.next [] [] s0 s54 [(s0.next, AObj.box 24 [(Value.int .i64 r48.1), (Value.int .i64 r48.2)])] [] []) => ?_
              refine Rf.ldI (C55.at m0 rfl) ?_
              refine Rf.ldI (C55.at m0 rfl) ?_
              subst hH; subst hQ
              exact Rf.leaf fun _ => Ev.done (Rf.ret C55 rfl)
            · refine Rf.elt (r := (rP (rI .i64) (rI .i64))) (C47.sr0 rfl h0) rfl fun x58 i59 o60 c61 r62 h63 => ?_
              obtain ⟨c68, c69, rfl, r70, r71⟩ := rP_elim r62
              obtain rfl := rI_elim r70
              obtain rfl := rI_elim r71
              refine Rf.ldI (h63.at 1 rfl) ?_
              refine Rf.sto 0 C47 rfl (by simp) rfl fun s75 (C76 : Cx s0.next [] [] s0 s75 [(s0.next, AObj.box 24 [(Value.int .i64 0), (Value.int .i64 0)])] [] []) => ?_
              refine Rf.ldI (C76.at m0 rfl) ?_
              refine Rf.ldI (C76.at m0 rfl) ?_
              subst hH; subst hQ
              exact Rf.leaf fun _ => Ev.done (Rf.ret C76 rfl)
          clear hJ43 hJ43'
          refine Rf.ite ?_ ?_
          · exact J43h _ (IntKind.wrap .i64 (r37.1 - 1)) (C42.sub (List.Sublist.refl _) (List.Sublist.refl _) (List.Sublist.refl _))
          · exact J43h _ r37.1 (C42.sub (List.Sublist.refl _) (List.Sublist.refl _) (List.Sublist.refl _))
      clear hJ23 hJ23'
      refine Rf.ite ?_ ?_
      · exact J23h true (C14.sub (List.Sublist.cons _ (List.Sublist.cons_cons _ List.Sublist.slnil)) (List.Sublist.refl _) (List.Sublist.refl _))
      · exact J23h (decide ((p1 : Int) ≥ 60000)) (C14.sub (List.Sublist.cons _ (List.Sublist.cons_cons _ List.Sublist.slnil)) (List.Sublist.refl _) (List.Sublist.refl _))
-- 7 "brindlewood/tables.Merge"
abbrev Inv7_1 (s0 : St) (p0 : (List (Int × Int))) (A0 : Option Addr) (c0 : Nat) (h0 : Sr (rP (rI .i64) (rI .i64)) s0 A0 c0 p0) (i30 : Nat) (t : ((List (Int × Int)) × Int)) (g : Regs) (s : St) : Prop := ∃ (A26 : Option Addr) (c27 : Nat), g = (rg 43 [(3, (Value.pointer (some ⟨i30, 0, none⟩))), (5, (Value.slice A26 (t.1).length c27)), (15, (Value.slice A0 (p0).length c0)), (16, (Value.int .i64 ((p0).length : Nat))), (17, (Value.int .i64 t.2))]) ∧ Cx s0.next [] [] s0 s [(i30, AObj.box 24 [(Value.int .i64 0), (Value.int .i64 0)])] [(On.mk (rP (rI .i64) (rI .i64)) t.1 A26 c27 38)] []
abbrev Ex7_1 (s0 : St) (p0 : (List (Int × Int))) (A0 : Option Addr) (c0 : Nat) (h0 : Sr (rP (rI .i64) (rI .i64)) s0 A0 c0 p0) (i30 : Nat) (t : ((List (Int × Int)) × Int)) (e : X) (g : Regs) (s : St) : Prop := ∃ (A147 : Option Addr) (c148 : Nat), e = .exit 0 ∧ g = (rg 43 [(3, (Value.pointer (some ⟨i30, 0, none⟩))), (5, (Value.slice A147 (t.1).length c148)), (15, (Value.slice A0 (p0).length c0)), (16, (Value.int .i64 ((p0).length : Nat))), (17, (Value.int .i64 t.2)), (18, (Value.bool false))]) ∧ Cx s0.next [] [] s0 s [(i30, AObj.box 24 [(Value.int .i64 0), (Value.int .i64 0)])] [(On.mk (rP (rI .i64) (rI .i64)) t.1 A147 c148 38)] []
theorem x7_1 (s0 : St) (p0 : (List (Int × Int))) (A0 : Option Addr) (c0 : Nat) (h0 : Sr (rP (rI .i64) (rI .i64)) s0 A0 c0 p0) (i30 : Nat) (t : ((List (Int × Int)) × Int)) (e : X) (g : Regs) (s : St) (h : Ex7_1 s0 p0 A0 c0 h0 i30 t e g s) : e ≠ .normal := by
  obtain ⟨_, _, h, _⟩ := h
  rw [h]; intro hh; cases hh
def pb7_1 (n : Nat) (p0 : (List (Int × Int))) (t : ((List (Int × Int)) × Int)) : Option (((List (Int × Int)) × Int) ⊕ ((List (Int × Int)) × Int)) :=
  (if (decide ((t.2 : Int) < ((p0).length : Nat))) then ((pj (fun (y140 : (List (Int × Int))) => (some (.inl (y140, (IntKind.wrap .i64 (t.2 + 1)))))) (fun J136 => rd p0 t.2 (fun x77 => ((pj (fun (b120 : Bool) => if b120 then (apP 16 t.1 [(x77.1, x77.2)] (fun y130 => (J136 (t.1 ++ [(x77.1, x77.2)])))) else ((J136 t.1))) (fun J119 => if ((((t.1).length : Nat) : Int) == 0) then ((J119 true)) else (rd t.1 (IntKind.wrap .i64 (((t.1).length : Nat) - 1)) (fun x99 => (J119 ((x99.2 : Int) != x77.2))))))))))) else (((some (.inr (t.1, t.2))))))
theorem b7_1 (n : Nat) (s0 : St) (p0 : (List (Int × Int))) (A0 : Option Addr) (c0 : Nat) (h0 : Sr (rP (rI .i64) (rI .i64)) s0 A0 c0 p0) (i30 : Nat) (t : ((List (Int × Int)) × Int)) (g : Regs) (s74 : St) (K : Kont) (Q : Out → St → Prop) (h : Inv7_1 s0 p0 A0 c0 h0 i30 t g s74) :
    Rf (pb7_1 n p0 t) (fun r => ∀ e g' s', LK (Inv7_1 s0 p0 A0 c0 h0 i30) (Ex7_1 s0 p0 A0 c0 h0 i30) r e g' s' → Ev (K e g' s') Q) (fun _ => Q) (kBody E 7 n [.b, .b, .b, .a, .b, .a, .a] g s74 K) := by
  obtain ⟨y28, x29⟩ := t
  obtain ⟨A26, c27, rfl, C75⟩ := h
  rw [e7_body0 n]
  unfold pb7_1
  refine Rf.gen fun H Q hH hQ => ?_
  try dsimp only
  refine Rf.ite ?_ ?_
  · refine Rf.pj fun J136 J136' hJ136 hJ136' => ?_
    have J136h : ∀ (e142 : Value) (e143 : Value) (A138 : Option Addr) (c139 : Nat) (y140 : (List (Int × Int))) (s144 : St) (_ : Cx s0.next [] [] s0 s144 [(i30, AObj.box 24 [(Value.int .i64 0), (Value.int .i64 0)])] [(On.mk (rP (rI .i64) (rI .i64)) y140 A138 c139 38)] []), Rf (J136 y140) H Q (J136' (Value.slice A138 (y140).length c139) e142 e143 s144) := by
      subst hJ136
      subst hJ136'
      intro e142 e143 A138 c139 y140 s144 C145
      subst hH; subst hQ
      exact Rf.leaf fun h => h _ _ _ ⟨rfl, _, _, rfl, (C145.sub (List.Sublist.refl _) (List.Sublist.refl _) (List.Sublist.refl _))⟩
    clear hJ136 hJ136'
    refine Rf.elt (r := (rP (rI .i64) (rI .i64))) (C75.sr0 rfl h0) rfl fun x77 i78 o79 c80 r81 h82 => ?_
    obtain ⟨c87, c88, rfl, r89, r90⟩ := rP_elim r81
    obtain rfl := rI_elim r89
    obtain rfl := rI_elim r90
    refine Rf.ldI (h82.at 0 rfl) ?_
    refine Rf.ldI (h82.at 1 rfl) ?_
    refine Rf.new C75 fun s93 (C94 : Cx s0.next [] [] s0 s93 [(s74.next, AObj.box 38 [(Value.int .i64 0), (Value.int .i64 0)]), (i30, AObj.box 24 [(Value.int .i64 0), (Value.int .i64 0)])] [(On.mk (rP (rI .i64) (rI .i64)) y28 A26 c27 38)] []) => ?_
    refine Rf.sto 0 C94 rfl (by simp) rfl fun s96 (C97 : Cx s0.next [] [] s0 s96 [(s74.next, AObj.box 38 [(Value.int .i64 x77.1), (Value.int .i64 x77.2)]), (i30, AObj.box 24 [(Value.int .i64 0), (Value.int .i64 0)])] [(On.mk (rP (rI .i64) (rI .i64)) y28 A26 c27 38)] []) => ?_
    refine Rf.asSl ?_
    refine Rf.pj fun J119 J119' hJ119 hJ119' => ?_
    have J119h : ∀ (b120 : Bool) (_ : Cx s0.next [] [] s0 s96 [(s74.next, AObj.box 38 [(Value.int .i64 x77.1), (Value.int .i64 x77.2)]), (i30, AObj.box 24 [(Value.int .i64 0), (Value.int .i64 0)])] [(On.mk (rP (rI .i64) (rI .i64)) y28 A26 c27 38)] []), Rf (J119 b120) H Q (J119' b120) := by
      subst hJ119
      subst hJ119'
      intro b120 C122
      refine Rf.ite ?_ ?_
      · refine Rf.ldI (C122.at m0 rfl) ?_
        refine Rf.ldI (C122.at m0 rfl) ?_
        refine Rf.newR (r := (rP (rI .i64) (rI .i64))) (xs := [(x77.1, x77.2)]) C122 rfl (many.cons (c := [(Value.int .i64 x77.1), (Value.int .i64 x77.2)]) (rP_mk rI_mk rI_mk) many.nil) fun s125 (C126 : Cx s0.next [] [] s0 s125 [(s74.next, AObj.box 38 [(Value.int .i64 x77.1), (Value.int .i64 x77.2)]), (i30, AObj.box 24 [(Value.int .i64 0), (Value.int .i64 0)])] [(On.mk (rP (rI .i64) (rI .i64)) [(x77.1, x77.2)] (some ⟨s96.next, 0, none⟩) 1 38), (On.mk (rP (rI .i64) (rI .i64)) y28 A26 c27 38)] []) => ?_
        refine Rf.kapp 1 C126 rfl rfl (by decide) (by decide) (Ap.sr u22 rfl (C126.srB m0)) fun A128 c129 s132 (C133 : Cx s0.next [] [] s0 s132 [(s74.next, AObj.box 38 [(Value.int .i64 x77.1), (Value.int .i64 x77.2)]), (i30, AObj.box 24 [(Value.int .i64 0), (Value.int .i64 0)])] [(On.mk (rP (rI .i64) (rI .i64)) [(x77.1, x77.2)] (some ⟨s96.next, 0, none⟩) 1 38), (On.mk (rP (rI .i64) (rI .i64)) (y28 ++ [(x77.1, x77.2)]) A128 c129 38)] []) => ?_
        have C134 : Cx s0.next [] [] s0 s132 [(s74.next, AObj.box 38 [(Value.int .i64 x77.1), (Value.int .i64 x77.2)]), (i30, AObj.box 24 [(Value.int .i64 0), (Value.int .i64 0)])] [(On.mk (rP (rI .i64) (rI .i64)) (y28 ++ [(x77.1, x77.2)]) A128 c129 38)] [] := C133.sub (List.Sublist.refl _) (List.Sublist.cons _ (List.Sublist.cons_cons _ List.Sublist.slnil)) (List.Sublist.refl _)
        exact J136h _ _ A128 c129 (y28 ++ [(x77.1, x77.2)]) _ (C134.sub (List.Sublist.cons _ (List.Sublist.cons_cons _ List.Sublist.slnil)) (List.Sublist.refl _) (List.Sublist.refl _))
      · exact J136h _ _ A26 c27 y28 _ (C122.sub (List.Sublist.cons _ (List.Sublist.cons_cons _ List.Sublist.slnil)) (List.Sublist.refl _) (List.Sublist.refl _))
    clear hJ119 hJ119'
    refine Rf.ite ?_ ?_
    · exact J119h true (C97.sub (List.Sublist.refl _) (List.Sublist.refl _) (List.Sublist.refl _))
    · refine Rf.asSl ?_
      refine Rf.elt (r := (rP (rI .i64) (rI .i64))) (C97.srB m0) rfl fun x99 i100 o101 c102 r103 h104 => ?_
      obtain ⟨c109, c110, rfl, r111, r112⟩ := rP_elim r103
      obtain rfl := rI_elim r111
      obtain rfl := rI_elim r112
      refine Rf.ldI (h104.at 1 rfl) ?_
      refine Rf.ldI (C97.at m0 rfl) ?_
      exact J119h ((x99.2 : Int) != x77.2) (C97.sub (List.Sublist.refl _) (List.Sublist.refl _) (List.Sublist.refl _))
  · subst hH; subst hQ
    exact Rf.leaf fun h => h _ _ _ ⟨_, _, rfl, rfl, (C75.sub (List.Sublist.refl _) (List.Sublist.refl _) (List.Sublist.refl _))⟩
abbrev P7 (N : Nat) (X : List Nat) (r : ((List (Int × Int)) × (Int × Int))) (v : Value) (s : St) : Prop := ∃ (A0 : Option Addr) (c0 : Nat), v = (Value.tuple #[(Value.slice A0 (r.1).length c0), (Value.agg #[(Value.int .i64 r.2.1), (Value.int .i64 r.2.2)])]) ∧ (On.mk (rP (rI .i64) (rI .i64)) r.1 A0 c0 38).holds N X s
def p7 : Nat → (List (Int × Int)) → Option ((List (Int × Int)) × (Int × Int))
  | 0, _ => none
  | n + 1, p0 => ((p27 n p0).bind fun r4 => ((if (!(((r4.1 : Int) == 0) && (((r4.2 : Int) == 0) && true))) then (((some (([] : (List (Int × Int))), (r4.1, r4.2))))) else (((((loopP (pb7_1 n p0) n (([] : List (Int × Int)), 0)).bind fun t151 => (some (t151.1, (0, 0))))))))))
theorem t7 (k : Nat) (p0 : (List (Int × Int))) (s0 : St) {A0 : Option Addr} {c0 : Nat} (h0 : Sr (rP (rI .i64) (rI .i64)) s0 A0 c0 p0) :
    Rf (p7 k p0) (fun _ => True) (fun r => RtC s0.next [] [] s0 (P7 s0.next [] r)) (acall E k 7 [(Value.slice A0 (p0).length c0)] s0) := by
  cases k with
  | zero => exact Rf.none
  | succ n =>
    rw [e7 n]
    rw [p7]
    refine Rf.gen fun H Q hH hQ => ?_
    have C0 : Cx s0.next [] [] s0 s0 [] [] [] := Cx.start s0
    refine Rf.new C0 fun s1 (C2 : Cx s0.next [] [] s0 s1 [(s0.next, AObj.box 24 [(Value.int .i64 0), (Value.int .i64 0)])] [] []) => ?_
    refine Rf.call0 C2 (t27 n p0 s1 (C2.sr0 rfl h0)) ?_
    rintro r4 _ s5 rfl h8
    have C9 : Cx s0.next [] [] s0 s5 [(s0.next, AObj.box 24 [(Value.int .i64 0), (Value.int .i64 0)])] [] [] := h8 [] (by simp) List.Pairwise.nil
    refine (Rf.asAgg (Rf.unc (Rf.asI (Rf.unc (Rf.asI (Rf.unn ?_))))))
    refine Rf.new C9 fun s10 (C11 : Cx s0.next [] [] s0 s10 [(s5.next, AObj.box 24 [(Value.int .i64 0), (Value.int .i64 0)]), (s0.next, AObj.box 24 [(Value.int .i64 0), (Value.int .i64 0)])] [] []) => ?_
    refine Rf.sto 0 C11 rfl (by simp) rfl fun s13 (C14 : Cx s0.next [] [] s0 s13 [(s5.next, AObj.box 24 [(Value.int .i64 r4.1), (Value.int .i64 r4.2)]), (s0.next, AObj.box 24 [(Value.int .i64 0), (Value.int .i64 0)])] [] []) => ?_
    refine Rf.ldI (C14.at m0 rfl) ?_
    refine Rf.ldI (C14.at m0 rfl) ?_
    refine Rf.ite ?_ ?_
    · refine Rf.ldI (C14.at m0 rfl) ?_
      refine Rf.ldI (C14.at m0 rfl) ?_
      refine Rf.sto 1 C14 rfl (by simp) rfl fun s19 (C20 : Cx s0.next [] [] s0 s19 [(s5.next, AObj.box 24 [(Value.int .i64 r4.1), (Value.int .i64 r4.2)]), (s0.next, AObj.box 24 [(Value.int .i64 r4.1), (Value.int .i64 r4.2)])] [] []) => ?_
      refine Rf.ldI (C20.at m1 rfl) ?_
      refine Rf.ldI (C20.at m1 rfl) ?_
      subst hH; subst hQ
      exact Rf.leaf fun _ => Ev.done (Rf.ret C20 ⟨_, _, rfl, .inl ⟨rfl, rfl, rfl⟩⟩)
    · have C24 : Cx s0.next [] [] s0 s13 [(s5.next, AObj.box 24 [(Value.int .i64 r4.1), (Value.int .i64 r4.2)]), (s0.next, AObj.box 24 [(Value.int .i64 0), (Value.int .i64 0)])] [(On.mk (rP (rI .i64) (rI .i64)) ([] : List (Int × Int)) none 0 38)] [] := C14.addNil (rP (rI .i64) (rI .i64)) 38
      refine Rf.loop (Inv := Inv7_1 s0 p0 A0 c0 h0 s0.next) (Ex := Ex7_1 s0 p0 A0 c0 h0 s0.next) (x7_1 s0 p0 A0 c0 h0 s0.next) (fun t g s K Q h => b7_1 n s0 p0 A0 c0 h0 s0.next t g s K Q h) n _ _ _ ⟨_, _, rfl, (C24.sub (List.Sublist.cons _ (List.Sublist.cons_cons _ List.Sublist.slnil)) (List.Sublist.refl _) (List.Sublist.refl _))⟩ ?_
      intro t151 e g s195 h
      obtain ⟨A147, c148, rfl, rfl, C196⟩ := h
      rw [e7_after0_exit0 n]
      refine Rf.sto 0 C196 rfl (by simp) rfl fun s197 (C198 : Cx s0.next [] [] s0 s197 [(s0.next, AObj.box 24 [(Value.int .i64 0), (Value.int .i64 0)])] [(On.mk (rP (rI .i64) (rI .i64)) t151.1 A147 c148 38)] []) => ?_
      refine Rf.ldI (C198.at m0 rfl) ?_
      refine Rf.ldI (C198.at m0 rfl) ?_
      subst hH; subst hQ
      exact Rf.leaf fun _ => Ev.done (Rf.ret C198 ⟨_, _, rfl, C198.own _ m0⟩)
-- 31 "brindlewood/tables.varint"
abbrev Inv31_1 (s0 : St) (p0 : (List Int)) (p1 : Int) (A0 : Option Addr) (c0 : Nat) (h0 : (On.mk (rI .u8) p0 A0 c0 5).holds s0.next (On.mk (rI .u8) p0 A0 c0 5).foot s0)  (t : ((List Int) × Int)) (g : Regs) (s : St) : Prop := ∃ (A2 : Option Addr) (c3 : Nat), g = (rg 21 [(0, (Value.slice A2 (t.1).length c3)), (1, (Value.int .i64 t.2))]) ∧ Cx s0.next (On.mk (rI .u8) p0 A0 c0 5).foot [] s0 s [] [(On.mk (rI .u8) t.1 A2 c3 5)] []
abbrev Ex31_1 (s0 : St) (p0 : (List Int)) (p1 : Int) (A0 : Option Addr) (c0 : Nat) (h0 : (On.mk (rI .u8) p0 A0 c0 5).holds s0.next (On.mk (rI .u8) p0 A0 c0 5).foot s0)  (t : ((List Int) × Int)) (e : X) (g : Regs) (s : St) : Prop := ∃ (A43 : Option Addr) (c44 : Nat), e = .exit 0 ∧ g = (rg 21 [(0, (Value.slice A43 (t.1).length c44)), (1, (Value.int .i64 t.2)), (6, (Value.bool false))]) ∧ Cx s0.next (On.mk (rI .u8) p0 A0 c0 5).foot [] s0 s [] [(On.mk (rI .u8) t.1 A43 c44 5)] []
theorem x31_1 (s0 : St) (p0 : (List Int)) (p1 : Int) (A0 : Option Addr) (c0 : Nat) (h0 : (On.mk (rI .u8) p0 A0 c0 5).holds s0.next (On.mk (rI .u8) p0 A0 c0 5).foot s0)  (t : ((List Int) × Int)) (e : X) (g : Regs) (s : St) (h : Ex31_1 s0 p0 p1 A0 c0 h0  t e g s) : e ≠ .normal := by
  obtain ⟨_, _, h, _⟩ := h
  rw [h]; intro hh; cases hh
def pb31_1 (n : Nat)  (t : ((List Int) × Int)) : Option (((List Int) × Int) ⊕ ((List Int) × Int)) :=
  (if (decide ((t.2 : Int) > 127)) then ((apP 1 t.1 [(IntKind.wrap .u8 (IntKind.wrap .i64 (((BitVec.ofInt (IntKind.bits .i64) (IntKind.wrap .i64 (((BitVec.ofInt (IntKind.bits .i64) t.2 &&& BitVec.ofInt (IntKind.bits .i64) 127).toNat : Nat))) ||| BitVec.ofInt (IntKind.bits .i64) 128).toNat : Nat))))] (fun y35 => (shrP .i64 t.2 7 (fun x41 => (some (.inl ((t.1 ++ [(IntKind.wrap .u8 (IntKind.wrap .i64 (((BitVec.ofInt (IntKind.bits .i64) (IntKind.wrap .i64 (((BitVec.ofInt (IntKind.bits .i64) t.2 &&& BitVec.ofInt (IntKind.bits .i64) 127).toNat : Nat))) ||| BitVec.ofInt (IntKind.bits .i64) 128).toNat : Nat))))]), x41)))))))) else (((some (.inr (t.1, t.2))))))
theorem b31_1 (n : Nat) (s0 : St) (p0 : (List Int)) (p1 : Int) (A0 : Option Addr) (c0 : Nat) (h0 : (On.mk (rI .u8) p0 A0 c0 5).holds s0.next (On.mk (rI .u8) p0 A0 c0 5).foot s0)  (t : ((List Int) × Int)) (g : Regs) (s27 : St) (K : Kont) (Q : Out → St → Prop) (h : Inv31_1 s0 p0 p1 A0 c0 h0  t g s27) :
    Rf (pb31_1 n t) (fun r => ∀ e g' s', LK (Inv31_1 s0 p0 p1 A0 c0 h0 ) (Ex31_1 s0 p0 p1 A0 c0 h0 ) r e g' s' → Ev (K e g' s') Q) (fun _ => Q) (kBody E 31 n [.b, .a, .a, .a] g s27 K) := by
  obtain ⟨y4, x5⟩ := t
  obtain ⟨A2, c3, rfl, C28⟩ := h
  rw [e31_body0 n]
  unfold pb31_1
  refine Rf.gen fun H Q hH hQ => ?_
  try dsimp only
  refine Rf.ite ?_ ?_
  · refine Rf.newR (r := (rI .u8)) (xs := [(IntKind.wrap .u8 (IntKind.wrap .i64 (((BitVec.ofInt (IntKind.bits .i64) (IntKind.wrap .i64 (((BitVec.ofInt (IntKind.bits .i64) x5 &&& BitVec.ofInt (IntKind.bits .i64) 127).toNat : Nat))) ||| BitVec.ofInt (IntKind.bits .i64) 128).toNat : Nat))))]) C28 rfl (many.cons (c := [(Value.int .u8 (IntKind.wrap .u8 (IntKind.wrap .i64 (((BitVec.ofInt (IntKind.bits .i64) (IntKind.wrap .i64 (((BitVec.ofInt (IntKind.bits .i64) x5 &&& BitVec.ofInt (IntKind.bits .i64) 127).toNat : Nat))) ||| BitVec.ofInt (IntKind.bits .i64) 128).toNat : Nat)))))]) rI_mk many.nil) fun s30 (C31 : Cx s0.next (On.mk (rI .u8) p0 A0 c0 5).foot [] s0 s30 [] [(On.mk (rI .u8) [(IntKind.wrap .u8 (IntKind.wrap .i64 (((BitVec.ofInt (IntKind.bits .i64) (IntKind.wrap .i64 (((BitVec.ofInt (IntKind.bits .i64) x5 &&& BitVec.ofInt (IntKind.bits .i64) 127).toNat : Nat))) ||| BitVec.ofInt (IntKind.bits .i64) 128).toNat : Nat))))] (some ⟨s27.next, 0, none⟩) 1 5), (On.mk (rI .u8) y4 A2 c3 5)] []) => ?_
    refine Rf.kapp 1 C31 rfl rfl (by decide) (by decide) (Ap.sr u29 rfl (C31.srB m0)) fun A33 c34 s37 (C38 : Cx s0.next (On.mk (rI .u8) p0 A0 c0 5).foot [] s0 s37 [] [(On.mk (rI .u8) [(IntKind.wrap .u8 (IntKind.wrap .i64 (((BitVec.ofInt (IntKind.bits .i64) (IntKind.wrap .i64 (((BitVec.ofInt (IntKind.bits .i64) x5 &&& BitVec.ofInt (IntKind.bits .i64) 127).toNat : Nat))) ||| BitVec.ofInt (IntKind.bits .i64) 128).toNat : Nat))))] (some ⟨s27.next, 0, none⟩) 1 5), (On.mk (rI .u8) (y4 ++ [(IntKind.wrap .u8 (IntKind.wrap .i64 (((BitVec.ofInt (IntKind.bits .i64) (IntKind.wrap .i64 (((BitVec.ofInt (IntKind.bits .i64) x5 &&& BitVec.ofInt (IntKind.bits .i64) 127).toNat : Nat))) ||| BitVec.ofInt (IntKind.bits .i64) 128).toNat : Nat))))]) A33 c34 5)] []) => ?_
    have C39 : Cx s0.next (On.mk (rI .u8) p0 A0 c0 5).foot [] s0 s37 [] [(On.mk (rI .u8) (y4 ++ [(IntKind.wrap .u8 (IntKind.wrap .i64 (((BitVec.ofInt (IntKind.bits .i64) (IntKind.wrap .i64 (((BitVec.ofInt (IntKind.bits .i64) x5 &&& BitVec.ofInt (IntKind.bits .i64) 127).toNat : Nat))) ||| BitVec.ofInt (IntKind.bits .i64) 128).toNat : Nat))))]) A33 c34 5)] [] := C38.sub (List.Sublist.refl _) (List.Sublist.cons _ (List.Sublist.cons_cons _ List.Sublist.slnil)) (List.Sublist.refl _)
    refine Rf.shrI fun x41 => ?_
    subst hH; subst hQ
    exact Rf.leaf fun h => h _ _ _ ⟨rfl, _, _, rfl, (C39.sub (List.Sublist.refl _) (List.Sublist.refl _) (List.Sublist.refl _))⟩
  · subst hH; subst hQ
    exact Rf.leaf fun h => h _ _ _ ⟨_, _, rfl, rfl, (C28.sub (List.Sublist.refl _) (List.Sublist.refl _) (List.Sublist.refl _))⟩
abbrev P31 (N : Nat) (X : List Nat) (r : (List Int)) (v : Value) (s : St) : Prop := ∃ (A0 : Option Addr) (c0 : Nat), v = (Value.slice A0 (r).length c0) ∧ (On.mk (rI .u8) r A0 c0 5).holds N X s
def p31 : Nat → (List Int) → Int → Option (List Int)
  | 0, _, _ => none
  | n + 1, p0, p1 => ((loopP (pb31_1 n) n (p0, p1)).bind fun t47 => apP 1 t47.1 [(IntKind.wrap .u8 t47.2)] (fun y76 => (some (t47.1 ++ [(IntKind.wrap .u8 t47.2)]))))
theorem t31 (k : Nat) (p0 : (List Int)) (p1 : Int) (s0 : St) {A0 : Option Addr} {c0 : Nat} (h0 : (On.mk (rI .u8) p0 A0 c0 5).holds s0.next (On.mk (rI .u8) p0 A0 c0 5).foot s0) :
    Rf (p31 k p0 p1) (fun _ => True) (fun r => RtC s0.next (On.mk (rI .u8) p0 A0 c0 5).foot [] s0 (P31 s0.next (On.mk (rI .u8) p0 A0 c0 5).foot r)) (acall E k 31 [(Value.slice A0 (p0).length c0), (Value.int .i64 p1)] s0) := by
  cases k with
  | zero => exact Rf.none
  | succ n =>
    rw [e31 n]
    rw [p31]
    refine Rf.gen fun H Q hH hQ => ?_
    have C0 : Cx s0.next (On.mk (rI .u8) p0 A0 c0 5).foot [] s0 s0 [] [(On.mk (rI .u8) p0 A0 c0 5)] [] := Cx.startO h0
    refine Rf.loop (Inv := Inv31_1 s0 p0 p1 A0 c0 h0 ) (Ex := Ex31_1 s0 p0 p1 A0 c0 h0 ) (x31_1 s0 p0 p1 A0 c0 h0 ) (fun t g s K Q h => b31_1 n s0 p0 p1 A0 c0 h0  t g s K Q h) n _ _ _ ⟨_, _, rfl, (C0.sub (List.Sublist.refl _) (List.Sublist.refl _) (List.Sublist.refl _))⟩ ?_
    intro t47 e g s69 h
    obtain ⟨A43, c44, rfl, rfl, C70⟩ := h
    rw [e31_after0_exit0 n]
    refine Rf.newR (r := (rI .u8)) (xs := [(IntKind.wrap .u8 t47.2)]) C70 rfl (many.cons (c := [(Value.int .u8 (IntKind.wrap .u8 t47.2))]) rI_mk many.nil) fun s71 (C72 : Cx s0.next (On.mk (rI .u8) p0 A0 c0 5).foot [] s0 s71 [] [(On.mk (rI .u8) [(IntKind.wrap .u8 t47.2)] (some ⟨s69.next, 0, none⟩) 1 5), (On.mk (rI .u8) t47.1 A43 c44 5)] []) => ?_
    refine Rf.kapp 1 C72 rfl rfl (by decide) (by decide) (Ap.sr u29 rfl (C72.srB m0)) fun A74 c75 s78 (C79 : Cx s0.next (On.mk (rI .u8) p0 A0 c0 5).foot [] s0 s78 [] [(On.mk (rI .u8) [(IntKind.wrap .u8 t47.2)] (some ⟨s69.next, 0, none⟩) 1 5), (On.mk (rI .u8) (t47.1 ++ [(IntKind.wrap .u8 t47.2)]) A74 c75 5)] []) => ?_
    have C80 : Cx s0.next (On.mk (rI .u8) p0 A0 c0 5).foot [] s0 s78 [] [(On.mk (rI .u8) (t47.1 ++ [(IntKind.wrap .u8 t47.2)]) A74 c75 5)] [] := C79.sub (List.Sublist.refl _) (List.Sublist.cons _ (List.Sublist.cons_cons _ List.Sublist.slnil)) (List.Sublist.refl _)
    subst hH; subst hQ
    exact Rf.leaf fun _ => Ev.done (Rf.ret C80 ⟨_, _, rfl, C80.own _ m0⟩)
-- 32 "brindlewood/tables.fold"
abbrev P32 (N : Nat) (X : List Nat) (r : Int) (v : Value) (s : St) : Prop := v = (Value.int .i64 r)
def p32 : Nat → Int → Option Int
  | 0, _ => none
  | n + 1, p0 => ((if (decide ((p0 : Int) < 0)) then (((some (IntKind.wrap .i64 ((IntKind.wrap .i64 ((-2) * p0)) - 1))))) else (((some (IntKind.wrap .i64 (2 * p0)))))))
theorem t32 (k : Nat) (p0 : Int) (s0 : St) :
    Rf (p32 k p0) (fun _ => True) (fun r => RtC s0.next [] [] s0 (P32 s0.next [] r)) (acall E k 32 [(Value.int .i64 p0)] s0) := by
  cases k with
  | zero => exact Rf.none
  | succ n =>
    rw [e32 n]
    rw [p32]
    refine Rf.gen fun H Q hH hQ => ?_
    have C0 : Cx s0.next [] [] s0 s0 [] [] [] := Cx.start s0
    refine Rf.ite ?_ ?_
    · subst hH; subst hQ
      exact Rf.leaf fun _ => Ev.done (Rf.ret C0 rfl)
    · subst hH; subst hQ
      exact Rf.leaf fun _ => Ev.done (Rf.ret C0 rfl)
-- 8 "brindlewood/tables.PackLines"
abbrev Inv8_1 (s0 : St) (p0 : (List (Int × Int))) (A0 : Option Addr) (c0 : Nat) (h0 : Sr (rP (rI .i64) (rI .i64)) s0 A0 c0 p0) (i32 : Nat) (t : ((List Int) × Int × Int × Int)) (g : Regs) (s : St) : Prop := ∃ (A26 : Option Addr) (c27 : Nat), g = (rg 41 [(3, (Value.pointer (some ⟨i32, 0, none⟩))), (5, (Value.slice A26 (t.1).length c27)), (6, (Value.int .i64 t.2.1)), (7, (Value.int .i64 t.2.2.1)), (16, (Value.slice A0 (p0).length c0)), (17, (Value.int .i64 ((p0).length : Nat))), (18, (Value.int .i64 t.2.2.2))]) ∧ Cx s0.next [] [] s0 s [(i32, AObj.box 24 [(Value.int .i64 0), (Value.int .i64 0)])] [(On.mk (rI .u8) t.1 A26 c27 5)] []
abbrev Ex8_1 (s0 : St) (p0 : (List (Int × Int))) (A0 : Option Addr) (c0 : Nat) (h0 : Sr (rP (rI .i64) (rI .i64)) s0 A0 c0 p0) (i32 : Nat) (t : ((List Int) × Int × Int × Int)) (e : X) (g : Regs) (s : St) : Prop := ∃ (A137 : Option Addr) (c138 : Nat), e = .exit 0 ∧ g = (rg 41 [(3, (Value.pointer (some ⟨i32, 0, none⟩))), (5, (Value.slice A137 (t.1).length c138)), (6, (Value.int .i64 t.2.1)), (7, (Value.int .i64 t.2.2.1)), (16, (Value.slice A0 (p0).length c0)), (17, (Value.int .i64 ((p0).length : Nat))), (18, (Value.int .i64 t.2.2.2)), (19, (Value.bool false))]) ∧ Cx s0.next [] [] s0 s [(i32, AObj.box 24 [(Value.int .i64 0), (Value.int .i64 0)])] [(On.mk (rI .u8) t.1 A137 c138 5)] []
theorem x8_1 (s0 : St) (p0 : (List (Int × Int))) (A0 : Option Addr) (c0 : Nat) (h0 : Sr (rP (rI .i64) (rI .i64)) s0 A0 c0 p0) (i32 : Nat) (t : ((List Int) × Int × Int × Int)) (e : X) (g : Regs) (s : St) (h : Ex8_1 s0 p0 A0 c0 h0 i32 t e g s) : e ≠ .normal := by
  obtain ⟨_, _, h, _⟩ := h
  rw [h]; intro hh; cases hh
def pb8_1 (n : Nat) (p0 : (List (Int × Int))) (t : ((List Int) × Int × Int × Int)) : Option (((List Int) × Int × Int × Int) ⊕ ((List Int) × Int × Int × Int)) :=
  (if (decide ((t.2.2.2 : Int) < ((p0).length : Nat))) then ((rd p0 t.2.2.2 (fun x77 => ((p31 n t.1 (IntKind.wrap .i64 (x77.1 - t.2.1))).bind fun r101 => (p32 n (IntKind.wrap .i64 (x77.2 - t.2.2.1))).bind fun r115 => (p31 n r101 r115).bind fun r119 => (((some (.inl (r119, x77.1, x77.2, (IntKind.wrap .i64 (t.2.2.2 + 1))))))))))) else (((some (.inr (t.1, t.2.1, t.2.2.1, t.2.2.2))))))
theorem b8_1 (n : Nat) (s0 : St) (p0 : (List (Int × Int))) (A0 : Option Addr) (c0 : Nat) (h0 : Sr (rP (rI .i64) (rI .i64)) s0 A0 c0 p0) (i32 : Nat) (t : ((List Int) × Int × Int × Int)) (g : Regs) (s74 : St) (K : Kont) (Q : Out → St → Prop) (h : Inv8_1 s0 p0 A0 c0 h0 i32 t g s74) :
    Rf (pb8_1 n p0 t) (fun r => ∀ e g' s', LK (Inv8_1 s0 p0 A0 c0 h0 i32) (Ex8_1 s0 p0 A0 c0 h0 i32) r e g' s' → Ev (K e g' s') Q) (fun _ => Q) (kBody E 8 n [.b, .b, .b, .b, .a, .b, .a, .a] g s74 K) := by
  obtain ⟨y28, x29, x30, x31⟩ := t
  obtain ⟨A26, c27, rfl, C75⟩ := h
  rw [e8_body0 n]
  unfold pb8_1
  refine Rf.gen fun H Q hH hQ => ?_
  try dsimp only
  refine Rf.ite ?_ ?_
  · refine Rf.elt (r := (rP (rI .i64) (rI .i64))) (C75.sr0 rfl h0) rfl fun x77 i78 o79 c80 r81 h82 => ?_
    obtain ⟨c87, c88, rfl, r89, r90⟩ := rP_elim r81
    obtain rfl := rI_elim r89
    obtain rfl := rI_elim r90
    refine Rf.ldI (h82.at 0 rfl) ?_
    refine Rf.ldI (h82.at 1 rfl) ?_
    refine Rf.new C75 fun s93 (C94 : Cx s0.next [] [] s0 s93 [(s74.next, AObj.box 38 [(Value.int .i64 0), (Value.int .i64 0)]), (i32, AObj.box 24 [(Value.int .i64 0), (Value.int .i64 0)])] [(On.mk (rI .u8) y28 A26 c27 5)] []) => ?_
    refine Rf.sto 0 C94 rfl (by simp) rfl fun s96 (C97 : Cx s0.next [] [] s0 s96 [(s74.next, AObj.box 38 [(Value.int .i64 x77.1), (Value.int .i64 x77.2)]), (i32, AObj.box 24 [(Value.int .i64 0), (Value.int .i64 0)])] [(On.mk (rI .u8) y28 A26 c27 5)] []) => ?_
    refine Rf.ifp (C97.isB m0) ?_
    refine Rf.ldI (C97.at m0 rfl) ?_
    refine Rf.callOA 0 C97 rfl (t31 n y28 (IntKind.wrap .i64 (x77.1 - x29)) { s96 with lowb := s96.next } (C97.lb.give m0)) ?_
    rintro r101 _ s102 ⟨A103, c104, rfl, h105⟩ h109 h108
    have C111 : Cx s0.next [] [] s0 { s102 with lowb := min s96.lowb s102.lowb } [(s74.next, AObj.box 38 [(Value.int .i64 x77.1), (Value.int .i64 x77.2)]), (i32, AObj.box 24 [(Value.int .i64 0), (Value.int .i64 0)])] [(On.mk (rI .u8) r101 A103 c104 5)] [] := h108 _ h105
    refine (Rf.asSl ?_)
    refine Rf.ifp h109 ?_
    refine Rf.lt ?_
    generalize { s102 with lowb := min s96.lowb s102.lowb } = s110 at C111 ⊢
    refine Rf.ifp (C111.isB m0) ?_
    refine Rf.ldI (C111.at m0 rfl) ?_
    refine Rf.callZ (t32 n (IntKind.wrap .i64 (x77.2 - x30)) St.bare) ?_
    rintro r115 _ s116 rfl
    refine (Rf.asI ?_)
    refine Rf.callOA 0 C111 rfl (t31 n r101 r115 { s110 with lowb := s110.next } (C111.lb.give m0)) ?_
    rintro r119 _ s120 ⟨A121, c122, rfl, h123⟩ h127 h126
    have C129 : Cx s0.next [] [] s0 { s120 with lowb := min s110.lowb s120.lowb } [(s74.next, AObj.box 38 [(Value.int .i64 x77.1), (Value.int .i64 x77.2)]), (i32, AObj.box 24 [(Value.int .i64 0), (Value.int .i64 0)])] [(On.mk (rI .u8) r119 A121 c122 5)] [] := h126 _ h123
    refine (Rf.asSl ?_)
    refine Rf.ifp h127 ?_
    refine Rf.lt ?_
    generalize { s120 with lowb := min s110.lowb s120.lowb } = s128 at C129 ⊢
    refine Rf.ldI (C129.at m0 rfl) ?_
    refine Rf.ldI (C129.at m0 rfl) ?_
    subst hH; subst hQ
    exact Rf.leaf fun h => h _ _ _ ⟨rfl, _, _, rfl, (C129.sub (List.Sublist.cons _ (List.Sublist.cons_cons _ List.Sublist.slnil)) (List.Sublist.refl _) (List.Sublist.refl _))⟩
  · subst hH; subst hQ
    exact Rf.leaf fun h => h _ _ _ ⟨_, _, rfl, rfl, (C75.sub (List.Sublist.refl _) (List.Sublist.refl _) (List.Sublist.refl _))⟩
abbrev P8 (N : Nat) (X : List Nat) (r : ((List Int) × (Int × Int))) (v : Value) (s : St) : Prop := ∃ (A0 : Option Addr) (c0 : Nat), v = (Value.tuple #[(Value.slice A0 (r.1).length c0), (Value.agg #[(Value.int .i64 r.2.1), (Value.int .i64 r.2.2)])]) ∧ (On.mk (rI .u8) r.1 A0 c0 5).holds N X s
def p8 : Nat → (List (Int × Int)) → Option ((List Int) × (Int × Int))
  | 0, _ => none
  | n + 1, p0 => ((p27 n p0).bind fun r4 => ((if (!(((r4.1 : Int) == 0) && (((r4.2 : Int) == 0) && true))) then (((some (([] : (List Int)), (r4.1, r4.2))))) else ((((((loopP (pb8_1 n p0) n (([] : List Int), 0, 0, 0)).bind fun t143 => (some (t143.1, (0, 0)))))))))))
theorem t8 (k : Nat) (p0 : (List (Int × Int))) (s0 : St) {A0 : Option Addr} {c0 : Nat} (h0 : Sr (rP (rI .i64) (rI .i64)) s0 A0 c0 p0) :
    Rf (p8 k p0) (fun _ => True) (fun r => RtC s0.next [] [] s0 (P8 s0.next [] r)) (acall E k 8 [(Value.slice A0 (p0).length c0)] s0) := by
  cases k with
  | zero => exact Rf.none
  | succ n =>
    rw [e8 n]
    rw [p8]
    refine Rf.gen fun H Q hH hQ => ?_
    have C0 : Cx s0.next [] [] s0 s0 [] [] [] := Cx.start s0
    refine Rf.new C0 fun s1 (C2 : Cx s0.next [] [] s0 s1 [(s0.next, AObj.box 24 [(Value.int .i64 0), (Value.int .i64 0)])] [] []) => ?_
    refine Rf.call0 C2 (t27 n p0 s1 (C2.sr0 rfl h0)) ?_
    rintro r4 _ s5 rfl h8
    have C9 : Cx s0.next [] [] s0 s5 [(s0.next, AObj.box 24 [(Value.int .i64 0), (Value.int .i64 0)])] [] [] := h8 [] (by simp) List.Pairwise.nil
    refine (Rf.asAgg (Rf.unc (Rf.asI (Rf.unc (Rf.asI (Rf.unn ?_))))))
    refine Rf.new C9 fun s10 (C11 : Cx s0.next [] [] s0 s10 [(s5.next, AObj.box 24 [(Value.int .i64 0), (Value.int .i64 0)]), (s0.next, AObj.box 24 [(Value.int .i64 0), (Value.int .i64 0)])] [] []) => ?_
    refine Rf.sto 0 C11 rfl (by simp) rfl fun s13 (C14 : Cx s0.next [] [] s0 s13 [(s5.next, AObj.box 24 [(Value.int .i64 r4.1), (Value.int .i64 r4.2)]), (s0.next, AObj.box 24 [(Value.int .i64 0), (Value.int .i64 0)])] [] []) => ?_
    refine Rf.ldI (C14.at m0 rfl) ?_
    refine Rf.ldI (C14.at m0 rfl) ?_
    refine Rf.ite ?_ ?_
    · refine Rf.ldI (C14.at m0 rfl) ?_
      refine Rf.ldI (C14.at m0 rfl) ?_
      refine Rf.sto 1 C14 rfl (by simp) rfl fun s19 (C20 : Cx s0.next [] [] s0 s19 [(s5.next, AObj.box 24 [(Value.int .i64 r4.1), (Value.int .i64 r4.2)]), (s0.next, AObj.box 24 [(Value.int .i64 r4.1), (Value.int .i64 r4.2)])] [] []) => ?_
      refine Rf.ldI (C20.at m1 rfl) ?_
      refine Rf.ldI (C20.at m1 rfl) ?_
      subst hH; subst hQ
      exact Rf.leaf fun _ => Ev.done (Rf.ret C20 ⟨_, _, rfl, .inl ⟨rfl, rfl, rfl⟩⟩)
    · have C24 : Cx s0.next [] [] s0 s13 [(s5.next, AObj.box 24 [(Value.int .i64 r4.1), (Value.int .i64 r4.2)]), (s0.next, AObj.box 24 [(Value.int .i64 0), (Value.int .i64 0)])] [(On.mk (rI .u8) ([] : List Int) none 0 5)] [] := C14.addNil (rI .u8) 5
      refine Rf.loop (Inv := Inv8_1 s0 p0 A0 c0 h0 s0.next) (Ex := Ex8_1 s0 p0 A0 c0 h0 s0.next) (x8_1 s0 p0 A0 c0 h0 s0.next) (fun t g s K Q h => b8_1 n s0 p0 A0 c0 h0 s0.next t g s K Q h) n _ _ _ ⟨_, _, rfl, (C24.sub (List.Sublist.cons _ (List.Sublist.cons_cons _ List.Sublist.slnil)) (List.Sublist.refl _) (List.Sublist.refl _))⟩ ?_
      intro t143 e g s185 h
      obtain ⟨A137, c138, rfl, rfl, C186⟩ := h
      rw [e8_after0_exit0 n]
      refine Rf.sto 0 C186 rfl (by simp) rfl fun s187 (C188 : Cx s0.next [] [] s0 s187 [(s0.next, AObj.box 24 [(Value.int .i64 0), (Value.int .i64 0)])] [(On.mk (rI .u8) t143.1 A137 c138 5)] []) => ?_
      refine Rf.ldI (C188.at m0 rfl) ?_
      refine Rf.ldI (C188.at m0 rfl) ?_
      subst hH; subst hQ
      exact Rf.leaf fun _ => Ev.done (Rf.ret C188 ⟨_, _, rfl, C188.own _ m0⟩)
-- 10 "brindlewood/brindlewoodref7.At"
abbrev P10 (N : Nat) (X : List Nat) (r : (Int × Int)) (v : Value) (s : St) : Prop := v = (Value.agg #[(Value.int .i64 r.1), (Value.int .i64 r.2)])
def p10 : Nat → Int → Int → Option (Int × Int)
  | 0, _, _ => none
  | n + 1, p0, p1 => ((some (p0, p1)))
theorem t10 (k : Nat) (p0 : Int) (p1 : Int) (s0 : St) :
    Rf (p10 k p0 p1) (fun _ => True) (fun r => RtC s0.next [] [] s0 (P10 s0.next [] r)) (acall E k 10 [(Value.int .i64 p0), (Value.int .i64 p1)] s0) := by
  cases k with
  | zero => exact Rf.none
  | succ n =>
    rw [e10 n]
    rw [p10]
    refine Rf.gen fun H Q hH hQ => ?_
    have C0 : Cx s0.next [] [] s0 s0 [] [] [] := Cx.start s0
    refine Rf.new C0 fun s1 (C2 : Cx s0.next [] [] s0 s1 [(s0.next, AObj.box 24 [(Value.int .i64 0), (Value.int .i64 0)])] [] []) => ?_
    refine Rf.sto 0 C2 rfl (by simp) rfl fun s4 (C5 : Cx s0.next [] [] s0 s4 [(s0.next, AObj.box 24 [(Value.int .i64 p0), (Value.int .i64 p1)])] [] []) => ?_
    refine Rf.ldI (C5.at m0 rfl) ?_
    refine Rf.ldI (C5.at m0 rfl) ?_
    subst hH; subst hQ
    exact Rf.leaf fun _ => Ev.done (Rf.ret C5 rfl)
-- 33 "brindlewood/brindlewoodref7.between"
abbrev P33 (N : Nat) (X : List Nat) (r : Bool) (v : Value) (s : St) : Prop := v = (Value.bool r)
def p33 : Nat → Int → Int → Int → Option Bool
  | 0, _, _, _ => none
  | n + 1, p0, p1, p2 => (pj (fun (b2 : Bool) => some b2) (fun J1 => if (decide ((p1 : Int) ≤ p0)) then ((J1 (decide ((p0 : Int) ≤ p2)))) else ((J1 false))))
theorem t33 (k : Nat) (p0 : Int) (p1 : Int) (p2 : Int) (s0 : St) :
    Rf (p33 k p0 p1 p2) (fun _ => True) (fun r => RtC s0.next [] [] s0 (P33 s0.next [] r)) (acall E k 33 [(Value.int .i64 p0), (Value.int .i64 p1), (Value.int .i64 p2)] s0) := by
  cases k with
  | zero => exact Rf.none
  | succ n =>
    rw [e33 n]
    rw [p33]
    refine Rf.gen fun H Q hH hQ => ?_
    have C0 : Cx s0.next [] [] s0 s0 [] [] [] := Cx.start s0
    refine Rf.pj fun J1 J1' hJ1 hJ1' => ?_
    have J1h : ∀ (b2 : Bool) (_ : Cx s0.next [] [] s0 s0 [] [] []), Rf (J1 b2) H Q (J1' b2) := by
      subst hJ1
      subst hJ1'
      intro b2 C4
      subst hH; subst hQ
      exact Rf.leaf fun _ => Ev.done (Rf.ret C4 rfl)
    clear hJ1 hJ1'
    refine Rf.ite ?_ ?_
    · exact J1h (decide ((p0 : Int) ≤ p2)) (C0.sub (List.Sublist.refl _) (List.Sublist.refl _) (List.Sublist.refl _))
    · exact J1h false (C0.sub (List.Sublist.refl _) (List.Sublist.refl _) (List.Sublist.refl _))
-- 9 "brindlewood/brindlewoodref7.MarksFault"
abbrev Inv9_1 (s0 : St) (p0 : (List (Int × Int))) (A0 : Option Addr) (c0 : Nat) (h0 : Sr (rP (rI .i64) (rI .i64)) s0 A0 c0 p0) (i16 : Nat) (t : (Int × Int)) (g : Regs) (s : St) : Prop := g = (rg 48 [(2, (Value.pointer (some ⟨i16, 0, none⟩))), (3, (Value.int .i64 t.1)), (10, (Value.slice A0 (p0).length c0)), (11, (Value.int .i64 ((p0).length : Nat))), (12, (Value.int .i64 t.2))]) ∧ Cx s0.next [] [] s0 s [(i16, AObj.box 24 [(Value.int .i64 0), (Value.int .i64 0)])] [] []
abbrev Ex9_1 (s0 : St) (p0 : (List (Int × Int))) (A0 : Option Addr) (c0 : Nat) (h0 : Sr (rP (rI .i64) (rI .i64)) s0 A0 c0 p0) (i16 : Nat) (t : ((Int × Int) ⊕ (Int × Int))) (e : X) (g : Regs) (s : St) : Prop := match t with
  | (.inl t) => e = .exit 0 ∧ g = (rg 48 [(2, (Value.pointer (some ⟨i16, 0, none⟩))), (3, (Value.int .i64 t.1)), (10, (Value.slice A0 (p0).length c0)), (11, (Value.int .i64 ((p0).length : Nat))), (12, (Value.int .i64 t.2)), (13, (Value.bool false))]) ∧ Cx s0.next [] [] s0 s [(i16, AObj.box 24 [(Value.int .i64 0), (Value.int .i64 0)])] [] []
  | (.inr t) => e = .ret ∧ g = (rg 48 [(2, (Value.pointer (some ⟨i16, 0, none⟩)))]) ∧ Cx s0.next [] [] s0 s [(i16, AObj.box 24 [(Value.int .i64 t.1), (Value.int .i64 t.2)])] [] []
theorem x9_1 (s0 : St) (p0 : (List (Int × Int))) (A0 : Option Addr) (c0 : Nat) (h0 : Sr (rP (rI .i64) (rI .i64)) s0 A0 c0 p0) (i16 : Nat) (t : ((Int × Int) ⊕ (Int × Int))) (e : X) (g : Regs) (s : St) (h : Ex9_1 s0 p0 A0 c0 h0 i16 t e g s) : e ≠ .normal := by
  rcases t with t | t
  · obtain ⟨h, _⟩ := h
    rw [h]; intro hh; cases hh
  · obtain ⟨h, _⟩ := h
    rw [h]; intro hh; cases hh
def pb9_1 (n : Nat) (p0 : (List (Int × Int))) (t : (Int × Int)) : Option ((Int × Int) ⊕ ((Int × Int) ⊕ (Int × Int))) :=
  (if (decide ((t.2 : Int) < ((p0).length : Nat))) then ((rd p0 t.2 (fun x68 => (pj (fun (b106 : Bool) => if b106 then ((p10 n 4 t.2).bind fun r110 => ((((some (.inr (.inr (r110.1, r110.2)))))))) else ((pj (fun (b125 : Bool) => if b125 then ((p10 n 11 t.2).bind fun r128 => ((((some (.inr (.inr (r128.1, r128.2)))))))) else ((((some (.inl (x68.1, (IntKind.wrap .i64 (t.2 + 1))))))))) (fun J124 => if (decide ((x68.1 : Int) ≤ t.1)) then ((J124 true)) else (if ((t.2 : Int) == 0) then ((J124 (decide ((x68.1 : Int) > 0)))) else ((J124 false))))))) (fun J105 => (p33 n x68.1 0 59999).bind fun r92 => if (!r92) then ((J105 true)) else ((p33 n x68.2 1 16000).bind fun r100 => (J105 (!r100)))))))) else (((some (.inr (.inl (t.1, t.2)))))))
theorem b9_1 (n : Nat) (s0 : St) (p0 : (List (Int × Int))) (A0 : Option Addr) (c0 : Nat) (h0 : Sr (rP (rI .i64) (rI .i64)) s0 A0 c0 p0) (i16 : Nat) (t : (Int × Int)) (g : Regs) (s65 : St) (K : Kont) (Q : Out → St → Prop) (h : Inv9_1 s0 p0 A0 c0 h0 i16 t g s65) :
    Rf (pb9_1 n p0 t) (fun r => ∀ e g' s', LK (Inv9_1 s0 p0 A0 c0 h0 i16) (Ex9_1 s0 p0 A0 c0 h0 i16) r e g' s' → Ev (K e g' s') Q) (fun _ => Q) (kBody E 9 n [.b, .b, .b, .a, .b, .a, .a] g s65 K) := by
  obtain ⟨x14, x15⟩ := t
  obtain ⟨rfl, C66⟩ := h
  rw [e9_body0 n]
  unfold pb9_1
  refine Rf.gen fun H Q hH hQ => ?_
  try dsimp only
  refine Rf.ite ?_ ?_
  · refine Rf.elt (r := (rP (rI .i64) (rI .i64))) (C66.sr0 rfl h0) rfl fun x68 i69 o70 c71 r72 h73 => ?_
    obtain ⟨c78, c79, rfl, r80, r81⟩ := rP_elim r72
    obtain rfl := rI_elim r80
    obtain rfl := rI_elim r81
    refine Rf.ldI (h73.at 0 rfl) ?_
    refine Rf.ldI (h73.at 1 rfl) ?_
    refine Rf.new C66 fun s84 (C85 : Cx s0.next [] [] s0 s84 [(s65.next, AObj.box 38 [(Value.int .i64 0), (Value.int .i64 0)]), (i16, AObj.box 24 [(Value.int .i64 0), (Value.int .i64 0)])] [] []) => ?_
    refine Rf.sto 0 C85 rfl (by simp) rfl fun s87 (C88 : Cx s0.next [] [] s0 s87 [(s65.next, AObj.box 38 [(Value.int .i64 x68.1), (Value.int .i64 x68.2)]), (i16, AObj.box 24 [(Value.int .i64 0), (Value.int .i64 0)])] [] []) => ?_
    refine Rf.pj fun J105 J105' hJ105 hJ105' => ?_
    have J105h : ∀ (b106 : Bool) (s108 : St) (_ : Cx s0.next [] [] s0 s108 [(s65.next, AObj.box 38 [(Value.int .i64 x68.1), (Value.int .i64 x68.2)]), (i16, AObj.box 24 [(Value.int .i64 0), (Value.int .i64 0)])] [] []), Rf (J105 b106) H Q (J105' b106 s108) := by
      subst hJ105
      subst hJ105'
      intro b106 s108 C109
      refine Rf.ite ?_ ?_
      · refine Rf.call0 C109 (t10 n 4 x15 s108) ?_
        rintro r110 _ s111 rfl h114
        have C115 : Cx s0.next [] [] s0 s111 [(s65.next, AObj.box 38 [(Value.int .i64 x68.1), (Value.int .i64 x68.2)]), (i16, AObj.box 24 [(Value.int .i64 0), (Value.int .i64 0)])] [] [] := h114 [] (by simp) List.Pairwise.nil
        refine (Rf.asAgg (Rf.unc (Rf.asI (Rf.unc (Rf.asI (Rf.unn ?_))))))
        refine Rf.sto 1 C115 rfl (by simp) rfl fun s116 (C117 : Cx s0.next [] [] s0 s116 [(s65.next, AObj.box 38 [(Value.int .i64 x68.1), (Value.int .i64 x68.2)]), (i16, AObj.box 24 [(Value.int .i64 r110.1), (Value.int .i64 r110.2)])] [] []) => ?_
        subst hH; subst hQ
        exact Rf.leaf fun h => h _ _ _ ⟨rfl, rfl, (C117.sub (List.Sublist.cons _ (List.Sublist.cons_cons _ List.Sublist.slnil)) (List.Sublist.refl _) (List.Sublist.refl _))⟩
      · refine Rf.pj fun J124 J124' hJ124 hJ124' => ?_
        have J124h : ∀ (b125 : Bool) (_ : Cx s0.next [] [] s0 s108 [(s65.next, AObj.box 38 [(Value.int .i64 x68.1), (Value.int .i64 x68.2)]), (i16, AObj.box 24 [(Value.int .i64 0), (Value.int .i64 0)])] [] []), Rf (J124 b125) H Q (J124' b125) := by
          subst hJ124
          subst hJ124'
          intro b125 C127
          refine Rf.ite ?_ ?_
          · refine Rf.call0 C127 (t10 n 11 x15 s108) ?_
            rintro r128 _ s129 rfl h132
            have C133 : Cx s0.next [] [] s0 s129 [(s65.next, AObj.box 38 [(Value.int .i64 x68.1), (Value.int .i64 x68.2)]), (i16, AObj.box 24 [(Value.int .i64 0), (Value.int .i64 0)])] [] [] := h132 [] (by simp) List.Pairwise.nil
            refine (Rf.asAgg (Rf.unc (Rf.asI (Rf.unc (Rf.asI (Rf.unn ?_))))))
            refine Rf.sto 1 C133 rfl (by simp) rfl fun s134 (C135 : Cx s0.next [] [] s0 s134 [(s65.next, AObj.box 38 [(Value.int .i64 x68.1), (Value.int .i64 x68.2)]), (i16, AObj.box 24 [(Value.int .i64 r128.1), (Value.int .i64 r128.2)])] [] []) => ?_
            subst hH; subst hQ
            exact Rf.leaf fun h => h _ _ _ ⟨rfl, rfl, (C135.sub (List.Sublist.cons _ (List.Sublist.cons_cons _ List.Sublist.slnil)) (List.Sublist.refl _) (List.Sublist.refl _))⟩
          · refine Rf.ldI (C127.at m0 rfl) ?_
            subst hH; subst hQ
            exact Rf.leaf fun h => h _ _ _ ⟨rfl, rfl, (C127.sub (List.Sublist.cons _ (List.Sublist.cons_cons _ List.Sublist.slnil)) (List.Sublist.refl _) (List.Sublist.refl _))⟩
        clear hJ124 hJ124'
        refine Rf.ldI (C109.at m0 rfl) ?_
        refine Rf.ite ?_ ?_
        · exact J124h true (C109.sub (List.Sublist.refl _) (List.Sublist.refl _) (List.Sublist.refl _))
        · refine Rf.ite ?_ ?_
          · refine Rf.ldI (C109.at m0 rfl) ?_
            exact J124h (decide ((x68.1 : Int) > 0)) (C109.sub (List.Sublist.refl _) (List.Sublist.refl _) (List.Sublist.refl _))
          · exact J124h false (C109.sub (List.Sublist.refl _) (List.Sublist.refl _) (List.Sublist.refl _))
    clear hJ105 hJ105'
    refine Rf.ldI (C88.at m0 rfl) ?_
    refine Rf.call0 C88 (t33 n x68.1 0 59999 s87) ?_
    rintro r92 _ s93 rfl h95
    have C96 : Cx s0.next [] [] s0 s93 [(s65.next, AObj.box 38 [(Value.int .i64 x68.1), (Value.int .i64 x68.2)]), (i16, AObj.box 24 [(Value.int .i64 0), (Value.int .i64 0)])] [] [] := h95 [] (by simp) List.Pairwise.nil
    refine (Rf.asB ?_)
    refine Rf.ite ?_ ?_
    · exact J105h true _ (C96.sub (List.Sublist.refl _) (List.Sublist.refl _) (List.Sublist.refl _))
    · refine Rf.ldI (C96.at m0 rfl) ?_
      refine Rf.call0 C96 (t33 n x68.2 1 16000 s93) ?_
      rintro r100 _ s101 rfl h103
      have C104 : Cx s0.next [] [] s0 s101 [(s65.next, AObj.box 38 [(Value.int .i64 x68.1), (Value.int .i64 x68.2)]), (i16, AObj.box 24 [(Value.int .i64 0), (Value.int .i64 0)])] [] [] := h103 [] (by simp) List.Pairwise.nil
      refine (Rf.asB ?_)
      exact J105h (!r100) _ (C104.sub (List.Sublist.refl _) (List.Sublist.refl _) (List.Sublist.refl _))
  · subst hH; subst hQ
    exact Rf.leaf fun h => h _ _ _ ⟨rfl, rfl, (C66.sub (List.Sublist.refl _) (List.Sublist.refl _) (List.Sublist.refl _))⟩
abbrev P9 (N : Nat) (X : List Nat) (r : (Int × Int)) (v : Value) (s : St) : Prop := v = (Value.agg #[(Value.int .i64 r.1), (Value.int .i64 r.2)])
def p9 : Nat → (List (Int × Int)) → Option (Int × Int)
  | 0, _ => none
  | n + 1, p0 => ((if (decide ((((p0).length : Nat) : Int) > 60000)) then ((p10 n 2 (-1)).bind fun r4 => ((some (r4.1, r4.2)))) else (((((loopP (pb9_1 n p0) n ((-1), 0)).bind fun t251 => match t251 with | (.inl t143) => ((some (0, 0))) | (.inr t198) => (some (t198.1, t198.2))))))))
theorem t9 (k : Nat) (p0 : (List (Int × Int))) (s0 : St) {A0 : Option Addr} {c0 : Nat} (h0 : Sr (rP (rI .i64) (rI .i64)) s0 A0 c0 p0) :
    Rf (p9 k p0) (fun _ => True) (fun r => RtC s0.next [] [] s0 (P9 s0.next [] r)) (acall E k 9 [(Value.slice A0 (p0).length c0)] s0) := by
  cases k with
  | zero => exact Rf.none
  | succ n =>
    rw [e9 n]
    rw [p9]
    refine Rf.gen fun H Q hH hQ => ?_
    have C0 : Cx s0.next [] [] s0 s0 [] [] [] := Cx.start s0
    refine Rf.new C0 fun s1 (C2 : Cx s0.next [] [] s0 s1 [(s0.next, AObj.box 24 [(Value.int .i64 0), (Value.int .i64 0)])] [] []) => ?_
    refine Rf.ite ?_ ?_
    · refine Rf.call0 C2 (t10 n 2 (-1) s1) ?_
      rintro r4 _ s5 rfl h8
      have C9 : Cx s0.next [] [] s0 s5 [(s0.next, AObj.box 24 [(Value.int .i64 0), (Value.int .i64 0)])] [] [] := h8 [] (by simp) List.Pairwise.nil
      refine (Rf.asAgg (Rf.unc (Rf.asI (Rf.unc (Rf.asI (Rf.unn ?_))))))
      refine Rf.sto 0 C9 rfl (by simp) rfl fun s10 (C11 : Cx s0.next [] [] s0 s10 [(s0.next, AObj.box 24 [(Value.int .i64 r4.1), (Value.int .i64 r4.2)])] [] []) => ?_
      refine Rf.ldI (C11.at m0 rfl) ?_
      refine Rf.ldI (C11.at m0 rfl) ?_
      subst hH; subst hQ
      exact Rf.leaf fun _ => Ev.done (Rf.ret C11 rfl)
    · refine Rf.loop (Inv := Inv9_1 s0 p0 A0 c0 h0 s0.next) (Ex := Ex9_1 s0 p0 A0 c0 h0 s0.next) (x9_1 s0 p0 A0 c0 h0 s0.next) (fun t g s K Q h => b9_1 n s0 p0 A0 c0 h0 s0.next t g s K Q h) n _ _ _ ⟨rfl, (C2.sub (List.Sublist.refl _) (List.Sublist.refl _) (List.Sublist.refl _))⟩ ?_
      intro t e g s h
      rcases t with t143 | t198
      · generalize s = s192 at h ⊢
        obtain ⟨rfl, rfl, C193⟩ := h
        rw [e9_after0_exit0 n]
        refine Rf.sto 0 C193 rfl (by simp) rfl fun s194 (C195 : Cx s0.next [] [] s0 s194 [(s0.next, AObj.box 24 [(Value.int .i64 0), (Value.int .i64 0)])] [] []) => ?_
        refine Rf.ldI (C195.at m0 rfl) ?_
        refine Rf.ldI (C195.at m0 rfl) ?_
        subst hH; subst hQ
        exact Rf.leaf fun _ => Ev.done (Rf.ret C195 rfl)
      · generalize s = s247 at h ⊢
        obtain ⟨rfl, rfl, C248⟩ := h
        rw [e9_after0_ret n]
        refine Rf.ldI (C248.at m0 rfl) ?_
        refine Rf.ldI (C248.at m0 rfl) ?_
        subst hH; subst hQ
        exact Rf.leaf fun _ => Ev.done (Rf.ret C248 rfl)
-- 11 "brindlewood/brindlewoodref7.LineAt"
abbrev Inv11_1 (s0 : St) (p0 : (List (Int × Int))) (p1 : Int) (A0 : Option Addr) (c0 : Nat) (h0 : Sr (rP (rI .i64) (rI .i64)) s0 A0 c0 p0)  (t : (Int × Int)) (g : Regs) (s : St) : Prop := g = (rg 22 [(1, (Value.int .i64 p1)), (5, (Value.int .i64 t.1)), (8, (Value.slice A0 (p0).length c0)), (9, (Value.int .i64 ((p0).length : Nat))), (10, (Value.int .i64 t.2))]) ∧ Cx s0.next [] [] s0 s [] [] []
abbrev Ex11_1 (s0 : St) (p0 : (List (Int × Int))) (p1 : Int) (A0 : Option Addr) (c0 : Nat) (h0 : Sr (rP (rI .i64) (rI .i64)) s0 A0 c0 p0)  (t : (Int × Int)) (e : X) (g : Regs) (s : St) : Prop := e = .exit 0 ∧ g = (rg 22 [(1, (Value.int .i64 p1)), (5, (Value.int .i64 t.1)), (8, (Value.slice A0 (p0).length c0)), (9, (Value.int .i64 ((p0).length : Nat))), (10, (Value.int .i64 t.2)), (11, (Value.bool false))]) ∧ Cx s0.next [] [] s0 s [] [] []
theorem x11_1 (s0 : St) (p0 : (List (Int × Int))) (p1 : Int) (A0 : Option Addr) (c0 : Nat) (h0 : Sr (rP (rI .i64) (rI .i64)) s0 A0 c0 p0)  (t : (Int × Int)) (e : X) (g : Regs) (s : St) (h : Ex11_1 s0 p0 p1 A0 c0 h0  t e g s) : e ≠ .normal := by
  obtain ⟨h, _⟩ := h
  rw [h]; intro hh; cases hh
def pb11_1 (n : Nat) (p0 : (List (Int × Int))) (p1 : Int) (t : (Int × Int)) : Option ((Int × Int) ⊕ (Int × Int)) :=
  (if (decide ((t.2 : Int) < ((p0).length : Nat))) then ((pj (fun (x56 : Int) => (some (.inl (x56, (IntKind.wrap .i64 (t.2 + 1)))))) (fun J55 => rd p0 t.2 (fun x28 => ((if (decide ((x28.1 : Int) ≤ p1)) then ((J55 x28.2)) else ((J55 t.1)))))))) else (((some (.inr (t.1, t.2))))))
theorem b11_1 (n : Nat) (s0 : St) (p0 : (List (Int × Int))) (p1 : Int) (A0 : Option Addr) (c0 : Nat) (h0 : Sr (rP (rI .i64) (rI .i64)) s0 A0 c0 p0)  (t : (Int × Int)) (g : Regs) (s25 : St) (K : Kont) (Q : Out → St → Prop) (h : Inv11_1 s0 p0 p1 A0 c0 h0  t g s25) :
    Rf (pb11_1 n p0 p1 t) (fun r => ∀ e g' s', LK (Inv11_1 s0 p0 p1 A0 c0 h0 ) (Ex11_1 s0 p0 p1 A0 c0 h0 ) r e g' s' → Ev (K e g' s') Q) (fun _ => Q) (kBody E 11 n [.b, .b, .a, .b, .a, .a] g s25 K) := by
  obtain ⟨x1, x2⟩ := t
  obtain ⟨rfl, C26⟩ := h
  rw [e11_body0 n]
  unfold pb11_1
  refine Rf.gen fun H Q hH hQ => ?_
  try dsimp only
  refine Rf.ite ?_ ?_
  · refine Rf.pj fun J55 J55' hJ55 hJ55' => ?_
    have J55h : ∀ (e58 : Value) (e59 : Value) (x56 : Int) (s60 : St) (_ : Cx s0.next [] [] s0 s60 [] [] []), Rf (J55 x56) H Q (J55' x56 e58 e59 s60) := by
      subst hJ55
      subst hJ55'
      intro e58 e59 x56 s60 C61
      subst hH; subst hQ
      exact Rf.leaf fun h => h _ _ _ ⟨rfl, rfl, (C61.sub (List.Sublist.refl _) (List.Sublist.refl _) (List.Sublist.refl _))⟩
    clear hJ55 hJ55'
    refine Rf.elt (r := (rP (rI .i64) (rI .i64))) (C26.sr0 rfl h0) rfl fun x28 i29 o30 c31 r32 h33 => ?_
    obtain ⟨c38, c39, rfl, r40, r41⟩ := rP_elim r32
    obtain rfl := rI_elim r40
    obtain rfl := rI_elim r41
    refine Rf.ldI (h33.at 0 rfl) ?_
    refine Rf.ldI (h33.at 1 rfl) ?_
    refine Rf.new C26 fun s44 (C45 : Cx s0.next [] [] s0 s44 [(s25.next, AObj.box 38 [(Value.int .i64 0), (Value.int .i64 0)])] [] []) => ?_
    refine Rf.sto 0 C45 rfl (by simp) rfl fun s47 (C48 : Cx s0.next [] [] s0 s47 [(s25.next, AObj.box 38 [(Value.int .i64 x28.1), (Value.int .i64 x28.2)])] [] []) => ?_
    refine Rf.ldI (C48.at m0 rfl) ?_
    refine Rf.ite ?_ ?_
    · refine Rf.ldI (C48.at m0 rfl) ?_
      exact J55h _ _ x28.2 _ (C48.sub (List.Sublist.cons _ List.Sublist.slnil) (List.Sublist.refl _) (List.Sublist.refl _))
    · exact J55h _ _ x1 _ (C48.sub (List.Sublist.cons _ List.Sublist.slnil) (List.Sublist.refl _) (List.Sublist.refl _))
  · subst hH; subst hQ
    exact Rf.leaf fun h => h _ _ _ ⟨rfl, rfl, (C26.sub (List.Sublist.refl _) (List.Sublist.refl _) (List.Sublist.refl _))⟩
abbrev P11 (N : Nat) (X : List Nat) (r : Int) (v : Value) (s : St) : Prop := v = (Value.int .i64 r)
def p11 : Nat → (List (Int × Int)) → Int → Option Int
  | 0, _, _ => none
  | n + 1, p0, p1 => ((((loopP (pb11_1 n p0 p1) n (0, 0)).bind fun t64 => (some t64.1))))
theorem t11 (k : Nat) (p0 : (List (Int × Int))) (p1 : Int) (s0 : St) {A0 : Option Addr} {c0 : Nat} (h0 : Sr (rP (rI .i64) (rI .i64)) s0 A0 c0 p0) :
    Rf (p11 k p0 p1) (fun _ => True) (fun r => RtC s0.next [] [] s0 (P11 s0.next [] r)) (acall E k 11 [(Value.slice A0 (p0).length c0), (Value.int .i64 p1)] s0) := by
  cases k with
  | zero => exact Rf.none
  | succ n =>
    rw [e11 n]
    rw [p11]
    refine Rf.gen fun H Q hH hQ => ?_
    have C0 : Cx s0.next [] [] s0 s0 [] [] [] := Cx.start s0
    refine Rf.loop (Inv := Inv11_1 s0 p0 p1 A0 c0 h0 ) (Ex := Ex11_1 s0 p0 p1 A0 c0 h0 ) (x11_1 s0 p0 p1 A0 c0 h0 ) (fun t g s K Q h => b11_1 n s0 p0 p1 A0 c0 h0  t g s K Q h) n _ _ _ ⟨rfl, (C0.sub (List.Sublist.refl _) (List.Sublist.refl _) (List.Sublist.refl _))⟩ ?_
    intro t64 e g s87 h
    obtain ⟨rfl, rfl, C88⟩ := h
    rw [e11_after0_exit0 n]
    subst hH; subst hQ
    exact Rf.leaf fun _ => Ev.done (Rf.ret C88 rfl)
-- 12 "slices.Equal[[]byte,byte]"
abbrev Inv12_1 (s0 : St) (p0 : (List Int)) (p1 : (List Int)) (A0 : Option Addr) (c0 : Nat) (A1 : Option Addr) (c1 : Nat) (h0 : Sr (rI .u8) s0 A0 c0 p0) (h1 : Sr (rI .u8) s0 A1 c1 p1)  (t : Int) (g : Regs) (s : St) : Prop := g = (rg 26 [(0, (Value.slice A0 (p0).length c0)), (1, (Value.slice A1 (p1).length c1)), (12, (Value.int .i64 ((p0).length : Nat))), (13, (Value.int .i64 t))]) ∧ Cx s0.next [] [] s0 s [] [] []
abbrev Ex12_1 (s0 : St) (p0 : (List Int)) (p1 : (List Int)) (A0 : Option Addr) (c0 : Nat) (A1 : Option Addr) (c1 : Nat) (h0 : Sr (rI .u8) s0 A0 c0 p0) (h1 : Sr (rI .u8) s0 A1 c1 p1)  (t : (Int ⊕ Unit)) (e : X) (g : Regs) (s : St) : Prop := match t with
  | (.inl t) => e = .exit 0 ∧ g = (rg 26 [(0, (Value.slice A0 (p0).length c0)), (1, (Value.slice A1 (p1).length c1)), (12, (Value.int .i64 ((p0).length : Nat))), (13, (Value.int .i64 t)), (14, (Value.bool false))]) ∧ Cx s0.next [] [] s0 s [] [] []
  | (.inr t) => e = .ret ∧ g = (rg 26 [(4, (Value.bool false))]) ∧ Cx s0.next [] [] s0 s [] [] []
theorem x12_1 (s0 : St) (p0 : (List Int)) (p1 : (List Int)) (A0 : Option Addr) (c0 : Nat) (A1 : Option Addr) (c1 : Nat) (h0 : Sr (rI .u8) s0 A0 c0 p0) (h1 : Sr (rI .u8) s0 A1 c1 p1)  (t : (Int ⊕ Unit)) (e : X) (g : Regs) (s : St) (h : Ex12_1 s0 p0 p1 A0 c0 A1 c1 h0 h1  t e g s) : e ≠ .normal := by
  rcases t with t | t
  · obtain ⟨h, _⟩ := h
    rw [h]; intro hh; cases hh
  · obtain ⟨h, _⟩ := h
    rw [h]; intro hh; cases hh
def pb12_1 (n : Nat) (p0 : (List Int)) (p1 : (List Int)) (t : Int) : Option (Int ⊕ (Int ⊕ Unit)) :=
  (if (decide ((t : Int) < ((p0).length : Nat))) then (((rd p0 t (fun x31 => rd p1 t (fun x38 => (if ((x31 : Int) != x38) then ((((some (.inr (.inr ())))))) else (((some (.inl (IntKind.wrap .i64 (t + 1)))))))))))) else (((some (.inr (.inl t))))))
theorem b12_1 (n : Nat) (s0 : St) (p0 : (List Int)) (p1 : (List Int)) (A0 : Option Addr) (c0 : Nat) (A1 : Option Addr) (c1 : Nat) (h0 : Sr (rI .u8) s0 A0 c0 p0) (h1 : Sr (rI .u8) s0 A1 c1 p1)  (x1 : Int) (g : Regs) (s28 : St) (K : Kont) (Q : Out → St → Prop) (h : Inv12_1 s0 p0 p1 A0 c0 A1 c1 h0 h1  x1 g s28) :
    Rf (pb12_1 n p0 p1 x1) (fun r => ∀ e g' s', LK (Inv12_1 s0 p0 p1 A0 c0 A1 c1 h0 h1 ) (Ex12_1 s0 p0 p1 A0 c0 A1 c1 h0 h1 ) r e g' s' → Ev (K e g' s') Q) (fun _ => Q) (kBody E 12 n [.b, .b, .a, .b, .a, .a] g s28 K) := by
  obtain ⟨rfl, C29⟩ := h
  rw [e12_body0 n]
  unfold pb12_1
  refine Rf.gen fun H Q hH hQ => ?_
  refine Rf.ite ?_ ?_
  · refine Rf.elt (r := (rI .u8)) (C29.sr0 rfl h0) rfl fun x31 i32 o33 c34 r35 h36 => ?_
    obtain rfl := rI_elim r35
    refine Rf.ldI (h36.at 0 rfl) ?_
    refine Rf.elt (r := (rI .u8)) (C29.sr0 rfl h1) rfl fun x38 i39 o40 c41 r42 h43 => ?_
    obtain rfl := rI_elim r42
    refine Rf.ldI (h43.at 0 rfl) ?_
    refine Rf.ite ?_ ?_
    · subst hH; subst hQ
      exact Rf.leaf fun h => h _ _ _ ⟨rfl, rfl, (C29.sub (List.Sublist.refl _) (List.Sublist.refl _) (List.Sublist.refl _))⟩
    · subst hH; subst hQ
      exact Rf.leaf fun h => h _ _ _ ⟨rfl, rfl, (C29.sub (List.Sublist.refl _) (List.Sublist.refl _) (List.Sublist.refl _))⟩
  · subst hH; subst hQ
    exact Rf.leaf fun h => h _ _ _ ⟨rfl, rfl, (C29.sub (List.Sublist.refl _) (List.Sublist.refl _) (List.Sublist.refl _))⟩
abbrev P12 (N : Nat) (X : List Nat) (r : Bool) (v : Value) (s : St) : Prop := v = (Value.bool r)
def p12 : Nat → (List Int) → (List Int) → Option Bool
  | 0, _, _ => none
  | n + 1, p0, p1 => ((if ((((p0).length : Nat) : Int) != ((p1).length : Nat)) then (((some false))) else ((((loopP (pb12_1 n p0 p1) n 0).bind fun t104 => match t104 with | (.inl t46) => ((some true)) | (.inr t75) => (some false))))))
theorem t12 (k : Nat) (p0 : (List Int)) (p1 : (List Int)) (s0 : St) {A0 : Option Addr} {c0 : Nat} {A1 : Option Addr} {c1 : Nat} (h0 : Sr (rI .u8) s0 A0 c0 p0) (h1 : Sr (rI .u8) s0 A1 c1 p1) :
    Rf (p12 k p0 p1) (fun _ => True) (fun r => RtC s0.next [] [] s0 (P12 s0.next [] r)) (acall E k 12 [(Value.slice A0 (p0).length c0), (Value.slice A1 (p1).length c1)] s0) := by
  cases k with
  | zero => exact Rf.none
  | succ n =>
    rw [e12 n]
    rw [p12]
    refine Rf.gen fun H Q hH hQ => ?_
    have C0 : Cx s0.next [] [] s0 s0 [] [] [] := Cx.start s0
    refine Rf.ite ?_ ?_
    · subst hH; subst hQ
      exact Rf.leaf fun _ => Ev.done (Rf.ret C0 rfl)
    · refine Rf.loop (Inv := Inv12_1 s0 p0 p1 A0 c0 A1 c1 h0 h1 ) (Ex := Ex12_1 s0 p0 p1 A0 c0 A1 c1 h0 h1 ) (x12_1 s0 p0 p1 A0 c0 A1 c1 h0 h1 ) (fun t g s K Q h => b12_1 n s0 p0 p1 A0 c0 A1 c1 h0 h1  t g s K Q h) n _ _ _ ⟨rfl, (C0.sub (List.Sublist.refl _) (List.Sublist.refl _) (List.Sublist.refl _))⟩ ?_
      intro t e g s h
      rcases t with t46 | t75
      · generalize s = s73 at h ⊢
        obtain ⟨rfl, rfl, C74⟩ := h
        rw [e12_after0_exit0 n]
        subst hH; subst hQ
        exact Rf.leaf fun _ => Ev.done (Rf.ret C74 rfl)
      · generalize s = s102 at h ⊢
        obtain ⟨rfl, rfl, C103⟩ := h
        rw [e12_after0_ret n]
        subst hH; subst hQ
        exact Rf.leaf fun _ => Ev.done (Rf.ret C103 rfl)
-- 34 "brindlewood/brindlewoodref7.Septets"
abbrev P34 (N : Nat) (X : List Nat) (r : (List Int)) (v : Value) (s : St) : Prop := ∃ (A0 : Option Addr) (c0 : Nat), v = (Value.slice A0 (r).length c0) ∧ (On.mk (rI .u8) r A0 c0 5).holds N X s
def p34 : Nat → Int → Option (List Int)
  | 0, _ => none
  | n + 1, p0 => ((if (decide ((p0 : Int) < 128)) then (((some [(IntKind.wrap .u8 p0)]))) else ((remP .i64 p0 128 (fun x4 => divP .i64 p0 128 (fun x8 => (p34 n x8).bind fun r9 => apP 1 [(IntKind.wrap .u8 (IntKind.wrap .i64 (128 + x4)))] r9 (fun y20 => (some ([(IntKind.wrap .u8 (IntKind.wrap .i64 (128 + x4)))] ++ r9)))))))))
theorem t34 (k : Nat) (p0 : Int) (s0 : St) :
    Rf (p34 k p0) (fun _ => True) (fun r => RtC s0.next [] [] s0 (P34 s0.next [] r)) (acall E k 34 [(Value.int .i64 p0)] s0) := by
  induction k generalizing p0 s0 with
  | zero => exact Rf.none
  | succ n ih =>
    rw [e34 n]
    rw [p34]
    refine Rf.gen fun H Q hH hQ => ?_
    have C0 : Cx s0.next [] [] s0 s0 [] [] [] := Cx.start s0
    refine Rf.ite ?_ ?_
    · refine Rf.newR (r := (rI .u8)) (xs := [(IntKind.wrap .u8 p0)]) C0 rfl (many.cons (c := [(Value.int .u8 (IntKind.wrap .u8 p0))]) rI_mk many.nil) fun s1 (C2 : Cx s0.next [] [] s0 s1 [] [(On.mk (rI .u8) [(IntKind.wrap .u8 p0)] (some ⟨s0.next, 0, none⟩) 1 5)] []) => ?_
      subst hH; subst hQ
      exact Rf.leaf fun _ => Ev.done (Rf.ret C2 ⟨_, _, rfl, C2.own _ m0⟩)
    · refine Rf.remI fun x4 => ?_
      refine Rf.newR (r := (rI .u8)) (xs := [(IntKind.wrap .u8 (IntKind.wrap .i64 (128 + x4)))]) C0 rfl (many.cons (c := [(Value.int .u8 (IntKind.wrap .u8 (IntKind.wrap .i64 (128 + x4))))]) rI_mk many.nil) fun s5 (C6 : Cx s0.next [] [] s0 s5 [] [(On.mk (rI .u8) [(IntKind.wrap .u8 (IntKind.wrap .i64 (128 + x4)))] (some ⟨s0.next, 0, none⟩) 1 5)] []) => ?_
      refine Rf.divI fun x8 => ?_
      refine Rf.call0 C6 (ih x8 s5) ?_
      rintro r9 _ s10 ⟨A11, c12, rfl, h13⟩ h16
      have C17 : Cx s0.next [] [] s0 s10 [] [(On.mk (rI .u8) r9 A11 c12 5), (On.mk (rI .u8) [(IntKind.wrap .u8 (IntKind.wrap .i64 (128 + x4)))] (some ⟨s0.next, 0, none⟩) 1 5)] [] := h16 [(On.mk (rI .u8) r9 A11 c12 5)] (by simpa using h13) (List.pairwise_singleton _ _)
      refine (Rf.asSl ?_)
      refine Rf.kapp 1 C17 rfl rfl (by decide) (by decide) (Ap.sr u29 rfl (C17.srB m0)) fun A18 c19 s22 (C23 : Cx s0.next [] [] s0 s22 [] [(On.mk (rI .u8) r9 A11 c12 5), (On.mk (rI .u8) ([(IntKind.wrap .u8 (IntKind.wrap .i64 (128 + x4)))] ++ r9) A18 c19 5)] []) => ?_
      subst hH; subst hQ
      exact Rf.leaf fun _ => Ev.done (Rf.ret C23 ⟨_, _, rfl, C23.own _ m1⟩)
-- 35 "brindlewood/brindlewoodref7.signedSeptets"
abbrev P35 (N : Nat) (X : List Nat) (r : (List Int)) (v : Value) (s : St) : Prop := ∃ (A0 : Option Addr) (c0 : Nat), v = (Value.slice A0 (r).length c0) ∧ (On.mk (rI .u8) r A0 c0 5).holds N X s
def p35 : Nat → Int → Option (List Int)
  | 0, _ => none
  | n + 1, p0 => ((if (decide ((p0 : Int) < 0)) then ((p34 n (IntKind.wrap .i64 ((IntKind.wrap .i64 ((-2) * p0)) - 1))).bind fun r1 => ((some r1))) else (((p34 n (IntKind.wrap .i64 (2 * p0))).bind fun r10 => (some r10)))))
theorem t35 (k : Nat) (p0 : Int) (s0 : St) :
    Rf (p35 k p0) (fun _ => True) (fun r => RtC s0.next [] [] s0 (P35 s0.next [] r)) (acall E k 35 [(Value.int .i64 p0)] s0) := by
  cases k with
  | zero => exact Rf.none
  | succ n =>
    rw [e35 n]
    rw [p35]
    refine Rf.gen fun H Q hH hQ => ?_
    have C0 : Cx s0.next [] [] s0 s0 [] [] [] := Cx.start s0
    refine Rf.ite ?_ ?_
    · refine Rf.call0 C0 (t34 n (IntKind.wrap .i64 ((IntKind.wrap .i64 ((-2) * p0)) - 1)) s0) ?_
      rintro r1 _ s2 ⟨A3, c4, rfl, h5⟩ h8
      have C9 : Cx s0.next [] [] s0 s2 [] [(On.mk (rI .u8) r1 A3 c4 5)] [] := h8 [(On.mk (rI .u8) r1 A3 c4 5)] (by simpa using h5) (List.pairwise_singleton _ _)
      refine (Rf.asSl ?_)
      subst hH; subst hQ
      exact Rf.leaf fun _ => Ev.done (Rf.ret C9 ⟨_, _, rfl, C9.own _ m0⟩)
    · refine Rf.call0 C0 (t34 n (IntKind.wrap .i64 (2 * p0)) s0) ?_
      rintro r10 _ s11 ⟨A12, c13, rfl, h14⟩ h17
      have C18 : Cx s0.next [] [] s0 s11 [] [(On.mk (rI .u8) r10 A12 c13 5)] [] := h17 [(On.mk (rI .u8) r10 A12 c13 5)] (by simpa using h14) (List.pairwise_singleton _ _)
      refine (Rf.asSl ?_)
      subst hH; subst hQ
      exact Rf.leaf fun _ => Ev.done (Rf.ret C18 ⟨_, _, rfl, C18.own _ m0⟩)
-- 13 "brindlewood/brindlewoodref7.PackedMarks"
abbrev Inv13_1 (s0 : St) (p0 : (List (Int × Int))) (A0 : Option Addr) (c0 : Nat) (h0 : Sr (rP (rI .i64) (rI .i64)) s0 A0 c0 p0) (i15 : Nat) (t : ((List Int) × Int × Int × Int)) (g : Regs) (s : St) : Prop := ∃ (A9 : Option Addr) (c10 : Nat), g = (rg 32 [(3, (Value.slice A9 (t.1).length c10)), (4, (Value.pointer (some ⟨i15, 0, none⟩))), (8, (Value.slice A0 (p0).length c0)), (9, (Value.int .i64 ((p0).length : Nat))), (10, (Value.int .i64 t.2.2.2))]) ∧ Cx s0.next [] [] s0 s [(i15, AObj.box 38 [(Value.int .i64 t.2.1), (Value.int .i64 t.2.2.1)])] [(On.mk (rI .u8) t.1 A9 c10 5)] []
abbrev Ex13_1 (s0 : St) (p0 : (List (Int × Int))) (A0 : Option Addr) (c0 : Nat) (h0 : Sr (rP (rI .i64) (rI .i64)) s0 A0 c0 p0) (i15 : Nat) (t : ((List Int) × Int × Int × Int)) (e : X) (g : Regs) (s : St) : Prop := ∃ (A129 : Option Addr) (c130 : Nat), e = .exit 0 ∧ g = (rg 32 [(3, (Value.slice A129 (t.1).length c130)), (4, (Value.pointer (some ⟨i15, 0, none⟩))), (8, (Value.slice A0 (p0).length c0)), (9, (Value.int .i64 ((p0).length : Nat))), (10, (Value.int .i64 t.2.2.2)), (11, (Value.bool false))]) ∧ Cx s0.next [] [] s0 s [(i15, AObj.box 38 [(Value.int .i64 t.2.1), (Value.int .i64 t.2.2.1)])] [(On.mk (rI .u8) t.1 A129 c130 5)] []
theorem x13_1 (s0 : St) (p0 : (List (Int × Int))) (A0 : Option Addr) (c0 : Nat) (h0 : Sr (rP (rI .i64) (rI .i64)) s0 A0 c0 p0) (i15 : Nat) (t : ((List Int) × Int × Int × Int)) (e : X) (g : Regs) (s : St) (h : Ex13_1 s0 p0 A0 c0 h0 i15 t e g s) : e ≠ .normal := by
  obtain ⟨_, _, h, _⟩ := h
  rw [h]; intro hh; cases hh
def pb13_1 (n : Nat) (p0 : (List (Int × Int))) (t : ((List Int) × Int × Int × Int)) : Option (((List Int) × Int × Int × Int) ⊕ ((List Int) × Int × Int × Int)) :=
  (if (decide ((t.2.2.2 : Int) < ((p0).length : Nat))) then ((rd p0 t.2.2.2 (fun x51 => ((p34 n (IntKind.wrap .i64 (x51.1 - t.2.1))).bind fun r78 => apP 1 t.1 r78 (fun y91 => (p35 n (IntKind.wrap .i64 (x51.2 - t.2.2.1))).bind fun r104 => apP 1 y91 r104 (fun y117 => (((some (.inl (((t.1 ++ r78) ++ r104), x51.1, x51.2, (IntKind.wrap .i64 (t.2.2.2 + 1))))))))))))) else (((some (.inr (t.1, t.2.1, t.2.2.1, t.2.2.2))))))
theorem b13_1 (n : Nat) (s0 : St) (p0 : (List (Int × Int))) (A0 : Option Addr) (c0 : Nat) (h0 : Sr (rP (rI .i64) (rI .i64)) s0 A0 c0 p0) (i15 : Nat) (t : ((List Int) × Int × Int × Int)) (g : Regs) (s48 : St) (K : Kont) (Q : Out → St → Prop) (h : Inv13_1 s0 p0 A0 c0 h0 i15 t g s48) :
    Rf (pb13_1 n p0 t) (fun r => ∀ e g' s', LK (Inv13_1 s0 p0 A0 c0 h0 i15) (Ex13_1 s0 p0 A0 c0 h0 i15) r e g' s' → Ev (K e g' s') Q) (fun _ => Q) (kBody E 13 n [.b, .b, .b, .a, .b, .a, .a] g s48 K) := by
  obtain ⟨y11, x12, x13, x14⟩ := t
  obtain ⟨A9, c10, rfl, C49⟩ := h
  rw [e13_body0 n]
  unfold pb13_1
  refine Rf.gen fun H Q hH hQ => ?_
  try dsimp only
  refine Rf.ite ?_ ?_
  · refine Rf.elt (r := (rP (rI .i64) (rI .i64))) (C49.sr0 rfl h0) rfl fun x51 i52 o53 c54 r55 h56 => ?_
    obtain ⟨c61, c62, rfl, r63, r64⟩ := rP_elim r55
    obtain rfl := rI_elim r63
    obtain rfl := rI_elim r64
    refine Rf.ldI (h56.at 0 rfl) ?_
    refine Rf.ldI (h56.at 1 rfl) ?_
    refine Rf.new C49 fun s67 (C68 : Cx s0.next [] [] s0 s67 [(s48.next, AObj.box 38 [(Value.int .i64 0), (Value.int .i64 0)]), (i15, AObj.box 38 [(Value.int .i64 x12), (Value.int .i64 x13)])] [(On.mk (rI .u8) y11 A9 c10 5)] []) => ?_
    refine Rf.sto 0 C68 rfl (by simp) rfl fun s70 (C71 : Cx s0.next [] [] s0 s70 [(s48.next, AObj.box 38 [(Value.int .i64 x51.1), (Value.int .i64 x51.2)]), (i15, AObj.box 38 [(Value.int .i64 x12), (Value.int .i64 x13)])] [(On.mk (rI .u8) y11 A9 c10 5)] []) => ?_
    refine Rf.ifp (C71.isB m0) ?_
    refine Rf.ldI (C71.at m0 rfl) ?_
    refine Rf.ifp (C71.isB m1) ?_
    refine Rf.ldI (C71.at m1 rfl) ?_
    refine Rf.call0A C71 (t34 n (IntKind.wrap .i64 (x51.1 - x12)) { s70 with lowb := s70.next }) ?_
    rintro r78 _ s79 ⟨A80, c81, rfl, h82⟩ h86 h85
    have C88 : Cx s0.next [] [] s0 { s79 with lowb := min s70.lowb s79.lowb } [(s48.next, AObj.box 38 [(Value.int .i64 x51.1), (Value.int .i64 x51.2)]), (i15, AObj.box 38 [(Value.int .i64 x12), (Value.int .i64 x13)])] [(On.mk (rI .u8) r78 A80 c81 5), (On.mk (rI .u8) y11 A9 c10 5)] [] := h85 [(On.mk (rI .u8) r78 A80 c81 5)] (by simpa using h82) (List.pairwise_singleton _ _)
    refine (Rf.asSl ?_)
    refine Rf.ifp h86 ?_
    refine Rf.lt ?_
    generalize { s79 with lowb := min s70.lowb s79.lowb } = s87 at C88 ⊢
    refine Rf.kappA 1 C88 rfl rfl (by decide) (by decide) (Ap.sr u29 rfl (C88.lb.srB m0)) fun A89 c90 s95 h96 (C94 : Cx s0.next [] [] s0 { s95 with lowb := min s87.lowb s95.lowb } [(s48.next, AObj.box 38 [(Value.int .i64 x51.1), (Value.int .i64 x51.2)]), (i15, AObj.box 38 [(Value.int .i64 x12), (Value.int .i64 x13)])] [(On.mk (rI .u8) r78 A80 c81 5), (On.mk (rI .u8) (y11 ++ r78) A89 c90 5)] []) => ?_
    refine Rf.ifp h96 ?_
    refine Rf.lt ?_
    generalize { s95 with lowb := min s87.lowb s95.lowb } = s93 at C94 ⊢
    refine Rf.ifp (C94.isB m0) ?_
    refine Rf.ldI (C94.at m0 rfl) ?_
    refine Rf.ifp (C94.isB m1) ?_
    refine Rf.ldI (C94.at m1 rfl) ?_
    refine Rf.call0A C94 (t35 n (IntKind.wrap .i64 (x51.2 - x13)) { s93 with lowb := s93.next }) ?_
    rintro r104 _ s105 ⟨A106, c107, rfl, h108⟩ h112 h111
    have C114 : Cx s0.next [] [] s0 { s105 with lowb := min s93.lowb s105.lowb } [(s48.next, AObj.box 38 [(Value.int .i64 x51.1), (Value.int .i64 x51.2)]), (i15, AObj.box 38 [(Value.int .i64 x12), (Value.int .i64 x13)])] [(On.mk (rI .u8) r104 A106 c107 5), (On.mk (rI .u8) r78 A80 c81 5), (On.mk (rI .u8) (y11 ++ r78) A89 c90 5)] [] := h111 [(On.mk (rI .u8) r104 A106 c107 5)] (by simpa using h108) (List.pairwise_singleton _ _)
    refine (Rf.asSl ?_)
    refine Rf.ifp h112 ?_
    refine Rf.lt ?_
    generalize { s105 with lowb := min s93.lowb s105.lowb } = s113 at C114 ⊢
    refine Rf.kappA 2 C114 rfl rfl (by decide) (by decide) (Ap.sr u29 rfl (C114.lb.srB m0)) fun A115 c116 s121 h122 (C120 : Cx s0.next [] [] s0 { s121 with lowb := min s113.lowb s121.lowb } [(s48.next, AObj.box 38 [(Value.int .i64 x51.1), (Value.int .i64 x51.2)]), (i15, AObj.box 38 [(Value.int .i64 x12), (Value.int .i64 x13)])] [(On.mk (rI .u8) r104 A106 c107 5), (On.mk (rI .u8) r78 A80 c81 5), (On.mk (rI .u8) ((y11 ++ r78) ++ r104) A115 c116 5)] []) => ?_
    refine Rf.ifp h122 ?_
    refine Rf.lt ?_
    generalize { s121 with lowb := min s113.lowb s121.lowb } = s119 at C120 ⊢
    refine Rf.ldI (C120.at m0 rfl) ?_
    refine Rf.ldI (C120.at m0 rfl) ?_
    refine Rf.sto 1 C120 rfl (by simp) rfl fun s126 (C127 : Cx s0.next [] [] s0 s126 [(s48.next, AObj.box 38 [(Value.int .i64 x51.1), (Value.int .i64 x51.2)]), (i15, AObj.box 38 [(Value.int .i64 x51.1), (Value.int .i64 x51.2)])] [(On.mk (rI .u8) r104 A106 c107 5), (On.mk (rI .u8) r78 A80 c81 5), (On.mk (rI .u8) ((y11 ++ r78) ++ r104) A115 c116 5)] []) => ?_
    subst hH; subst hQ
    exact Rf.leaf fun h => h _ _ _ ⟨rfl, _, _, rfl, (C127.sub (List.Sublist.cons _ (List.Sublist.cons_cons _ List.Sublist.slnil)) (List.Sublist.cons _ (List.Sublist.cons _ (List.Sublist.cons_cons _ List.Sublist.slnil))) (List.Sublist.refl _))⟩
  · subst hH; subst hQ
    exact Rf.leaf fun h => h _ _ _ ⟨_, _, rfl, rfl, (C49.sub (List.Sublist.refl _) (List.Sublist.refl _) (List.Sublist.refl _))⟩
abbrev P13 (N : Nat) (X : List Nat) (r : (List Int)) (v : Value) (s : St) : Prop := ∃ (A0 : Option Addr) (c0 : Nat), v = (Value.slice A0 (r).length c0) ∧ (On.mk (rI .u8) r A0 c0 5).holds N X s
def p13 : Nat → (List (Int × Int)) → Option (List Int)
  | 0, _ => none
  | n + 1, p0 => (((((loopP (pb13_1 n p0) n (([] : List Int), 0, 0, 0)).bind fun t135 => (some t135.1)))))
theorem t13 (k : Nat) (p0 : (List (Int × Int))) (s0 : St) {A0 : Option Addr} {c0 : Nat} (h0 : Sr (rP (rI .i64) (rI .i64)) s0 A0 c0 p0) :
    Rf (p13 k p0) (fun _ => True) (fun r => RtC s0.next [] [] s0 (P13 s0.next [] r)) (acall E k 13 [(Value.slice A0 (p0).length c0)] s0) := by
  cases k with
  | zero => exact Rf.none
  | succ n =>
    rw [e13 n]
    rw [p13]
    refine Rf.gen fun H Q hH hQ => ?_
    have C0 : Cx s0.next [] [] s0 s0 [] [] [] := Cx.start s0
    refine Rf.new C0 fun s1 (C2 : Cx s0.next [] [] s0 s1 [(s0.next, AObj.box 38 [(Value.int .i64 0), (Value.int .i64 0)])] [] []) => ?_
    refine Rf.sto 0 C2 rfl (by simp) rfl fun s4 (C5 : Cx s0.next [] [] s0 s4 [(s0.next, AObj.box 38 [(Value.int .i64 0), (Value.int .i64 0)])] [] []) => ?_
    have C7 : Cx s0.next [] [] s0 s4 [(s0.next, AObj.box 38 [(Value.int .i64 0), (Value.int .i64 0)])] [(On.mk (rI .u8) ([] : List Int) none 0 5)] [] := C5.addNil (rI .u8) 5
    refine Rf.loop (Inv := Inv13_1 s0 p0 A0 c0 h0 s0.next) (Ex := Ex13_1 s0 p0 A0 c0 h0 s0.next) (x13_1 s0 p0 A0 c0 h0 s0.next) (fun t g s K Q h => b13_1 n s0 p0 A0 c0 h0 s0.next t g s K Q h) n _ _ _ ⟨_, _, rfl, (C7.sub (List.Sublist.refl _) (List.Sublist.refl _) (List.Sublist.refl _))⟩ ?_
    intro t135 e g s168 h
    obtain ⟨A129, c130, rfl, rfl, C169⟩ := h
    rw [e13_after0_exit0 n]
    subst hH; subst hQ
    exact Rf.leaf fun _ => Ev.done (Rf.ret C169 ⟨_, _, rfl, C169.own _ m0⟩)
-- 36 "(*brindlewood/tables.reader).number"
abbrev Inv36_1 (s0 : St) (p0 : ((List Int) × Int)) (b0 : Nat) (A0_1 : Option Addr) (c0_1 : Nat) (h0 : s0.get b0 = some (AObj.box 71 [(Value.slice A0_1 (p0.1).length c0_1), (Value.int .i64 p0.2)])) (g0 : b0 < s0.next) (h0_1 : Sr (rI .u8) s0 A0_1 c0_1 p0.1)  (t : (Int × Int × Int)) (g : Regs) (s : St) : Prop := g = (rg 54 [(0, (Value.pointer (some ⟨b0, 0, none⟩))), (4, (Value.int .i64 t.2.1)), (5, (Value.int .i64 t.2.2))]) ∧ Cx s0.next [b0] [b0] s0 s [(b0, AObj.box 71 [(Value.slice A0_1 (p0.1).length c0_1), (Value.int .i64 t.1)])] [] []
abbrev Ex36_1 (s0 : St) (p0 : ((List Int) × Int)) (b0 : Nat) (A0_1 : Option Addr) (c0_1 : Nat) (h0 : s0.get b0 = some (AObj.box 71 [(Value.slice A0_1 (p0.1).length c0_1), (Value.int .i64 p0.2)])) (g0 : b0 < s0.next) (h0_1 : Sr (rI .u8) s0 A0_1 c0_1 p0.1)  (t : ((Int × Int × Int) ⊕ (Int × Bool × Int))) (e : X) (g : Regs) (s : St) : Prop := match t with
  | (.inl t) => e = .exit 0 ∧ g = (rg 54 [(0, (Value.pointer (some ⟨b0, 0, none⟩))), (4, (Value.int .i64 t.2.1)), (5, (Value.int .i64 t.2.2)), (8, (Value.bool false))]) ∧ Cx s0.next [b0] [b0] s0 s [(b0, AObj.box 71 [(Value.slice A0_1 (p0.1).length c0_1), (Value.int .i64 t.1)])] [] []
  | (.inr t) => e = .ret ∧ g = (rg 54 [(2, (Value.int .i64 t.1)), (3, (Value.bool t.2.1))]) ∧ Cx s0.next [b0] [b0] s0 s [(b0, AObj.box 71 [(Value.slice A0_1 (p0.1).length c0_1), (Value.int .i64 t.2.2)])] [] []
theorem x36_1 (s0 : St) (p0 : ((List Int) × Int)) (b0 : Nat) (A0_1 : Option Addr) (c0_1 : Nat) (h0 : s0.get b0 = some (AObj.box 71 [(Value.slice A0_1 (p0.1).length c0_1), (Value.int .i64 p0.2)])) (g0 : b0 < s0.next) (h0_1 : Sr (rI .u8) s0 A0_1 c0_1 p0.1)  (t : ((Int × Int × Int) ⊕ (Int × Bool × Int))) (e : X) (g : Regs) (s : St) (h : Ex36_1 s0 p0 b0 A0_1 c0_1 h0 g0 h0_1  t e g s) : e ≠ .normal := by
  rcases t with t | t
  · obtain ⟨h, _⟩ := h
    rw [h]; intro hh; cases hh
  · obtain ⟨h, _⟩ := h
    rw [h]; intro hh; cases hh
def pb36_1 (n : Nat) (p0 : ((List Int) × Int)) (t : (Int × Int × Int)) : Option ((Int × Int × Int) ⊕ ((Int × Int × Int) ⊕ (Int × Bool × Int))) :=
  (if (decide ((t.2.2 : Int) ≤ 14)) then (((if (decide ((t.1 : Int) ≥ ((p0.1).length : Nat))) then (((((some (.inr (.inr (0, false, t.1)))))))) else ((rd p0.1 t.1 (fun x77 => ((shlP .i64 (IntKind.wrap .i64 (((BitVec.ofInt (IntKind.bits .i64) (IntKind.wrap .i64 x77) &&& BitVec.ofInt (IntKind.bits .i64) 127).toNat : Nat))) t.2.2 (fun x93 => ((if (decide (((IntKind.wrap .i64 x77) : Int) < 128)) then (pj (fun (x95 : Int) (b96 : Bool) => ((some (.inr (.inr (x95, b96, (IntKind.wrap .i64 (t.1 + 1)))))))) (fun J94 => if (decide (((IntKind.wrap .i64 x77) : Int) > 0)) then ((J94 (IntKind.wrap .i64 (((BitVec.ofInt (IntKind.bits .i64) t.2.1 ||| BitVec.ofInt (IntKind.bits .i64) x93).toNat : Nat))) true)) else ((J94 (IntKind.wrap .i64 (((BitVec.ofInt (IntKind.bits .i64) t.2.1 ||| BitVec.ofInt (IntKind.bits .i64) x93).toNat : Nat))) ((t.2.2 : Int) == 0))))) else (((some (.inl ((IntKind.wrap .i64 (t.1 + 1)), (IntKind.wrap .i64 (((BitVec.ofInt (IntKind.bits .i64) t.2.1 ||| BitVec.ofInt (IntKind.bits .i64) x93).toNat : Nat))), (IntKind.wrap .i64 (t.2.2 + 7)))))))))))))))))) else (((some (.inr (.inl (t.1, t.2.1, t.2.2)))))))
theorem b36_1 (n : Nat) (s0 : St) (p0 : ((List Int) × Int)) (b0 : Nat) (A0_1 : Option Addr) (c0_1 : Nat) (h0 : s0.get b0 = some (AObj.box 71 [(Value.slice A0_1 (p0.1).length c0_1), (Value.int .i64 p0.2)])) (g0 : b0 < s0.next) (h0_1 : Sr (rI .u8) s0 A0_1 c0_1 p0.1)  (t : (Int × Int × Int)) (g : Regs) (s58 : St) (K : Kont) (Q : Out → St → Prop) (h : Inv36_1 s0 p0 b0 A0_1 c0_1 h0 g0 h0_1  t g s58) :
    Rf (pb36_1 n p0 t) (fun r => ∀ e g' s', LK (Inv36_1 s0 p0 b0 A0_1 c0_1 h0 g0 h0_1 ) (Ex36_1 s0 p0 b0 A0_1 c0_1 h0 g0 h0_1 ) r e g' s' → Ev (K e g' s') Q) (fun _ => Q) (kBody E 36 n [.b, .b, .a, .b, .a, .a] g s58 K) := by
  obtain ⟨x1, x2, x3⟩ := t
  obtain ⟨rfl, C59⟩ := h
  rw [e36_body0 n]
  unfold pb36_1
  refine Rf.gen fun H Q hH hQ => ?_
  try dsimp only
  refine Rf.ite ?_ ?_
  · refine Rf.nilc ?_
    refine Rf.adr1 ?_
    refine Rf.ldI (C59.at m0 rfl) ?_
    refine Rf.nilc ?_
    refine Rf.adr1 ?_
    refine Rf.ldSl (C59.at m0 rfl) ?_
    refine Rf.ite ?_ ?_
    · subst hH; subst hQ
      exact Rf.leaf fun h => h _ _ _ ⟨rfl, rfl, (C59.sub (List.Sublist.refl _) (List.Sublist.refl _) (List.Sublist.refl _))⟩
    · refine Rf.nilc ?_
      refine Rf.adr1 ?_
      refine Rf.ldSl (C59.at m0 rfl) ?_
      refine Rf.nilc ?_
      refine Rf.adr1 ?_
      refine Rf.ldI (C59.at m0 rfl) ?_
      refine Rf.elt (r := (rI .u8)) (C59.sr0 rfl h0_1) rfl fun x77 i78 o79 c80 r81 h82 => ?_
      obtain rfl := rI_elim r81
      refine Rf.ldI (h82.at 0 rfl) ?_
      refine Rf.nilc ?_
      refine Rf.adr1 ?_
      refine Rf.ldI (C59.at m0 rfl) ?_
      refine Rf.nilc ?_
      refine Rf.adr1 ?_
      refine Rf.sto 0 C59 rfl (by simp) rfl fun s91 (C92 : Cx s0.next [b0] [b0] s0 s91 [(b0, AObj.box 71 [(Value.slice A0_1 (p0.1).length c0_1), (Value.int .i64 (IntKind.wrap .i64 (x1 + 1)))])] [] []) => ?_
      refine Rf.shlI fun x93 => ?_
      refine Rf.ite ?_ ?_
      · refine Rf.pj fun J94 J94' hJ94 hJ94' => ?_
        have J94h : ∀ (x95 : Int) (b96 : Bool) (_ : Cx s0.next [b0] [b0] s0 s91 [(b0, AObj.box 71 [(Value.slice A0_1 (p0.1).length c0_1), (Value.int .i64 (IntKind.wrap .i64 (x1 + 1)))])] [] []), Rf (J94 x95 b96) H Q (J94' x95 b96) := by
          subst hJ94
          subst hJ94'
          intro x95 b96 C99
          subst hH; subst hQ
          exact Rf.leaf fun h => h _ _ _ ⟨rfl, rfl, (C99.sub (List.Sublist.refl _) (List.Sublist.refl _) (List.Sublist.refl _))⟩
        clear hJ94 hJ94'
        refine Rf.ite ?_ ?_
        · exact J94h (IntKind.wrap .i64 (((BitVec.ofInt (IntKind.bits .i64) x2 ||| BitVec.ofInt (IntKind.bits .i64) x93).toNat : Nat))) true (C92.sub (List.Sublist.refl _) (List.Sublist.refl _) (List.Sublist.refl _))
        · exact J94h (IntKind.wrap .i64 (((BitVec.ofInt (IntKind.bits .i64) x2 ||| BitVec.ofInt (IntKind.bits .i64) x93).toNat : Nat))) ((x3 : Int) == 0) (C92.sub (List.Sublist.refl _) (List.Sublist.refl _) (List.Sublist.refl _))
      · subst hH; subst hQ
        exact Rf.leaf fun h => h _ _ _ ⟨rfl, rfl, (C92.sub (List.Sublist.refl _) (List.Sublist.refl _) (List.Sublist.refl _))⟩
  · subst hH; subst hQ
    exact Rf.leaf fun h => h _ _ _ ⟨rfl, rfl, (C59.sub (List.Sublist.refl _) (List.Sublist.refl _) (List.Sublist.refl _))⟩
abbrev P36 (N : Nat) (X : List Nat) (b0 : Nat) (r : (Int × Bool × ((List Int) × Int))) (v : Value) (s : St) : Prop := ∃ (A0 : Option Addr) (c0 : Nat), v = (Value.tuple #[(Value.int .i64 r.1), (Value.bool r.2.1)]) ∧ Sr (rI .u8) s A0 c0 r.2.2.1 ∧ s.get b0 = some (AObj.box 71 [(Value.slice A0 (r.2.2.1).length c0), (Value.int .i64 r.2.2.2)])
def p36 : Nat → ((List Int) × Int) → Option (Int × Bool × ((List Int) × Int))
  | 0, _ => none
  | n + 1, p0 => ((((loopP (pb36_1 n p0) n (p0.2, 0, 0)).bind fun t220 => match t220 with | (.inl t106) => ((some (0, false, (p0.1, t106.1)))) | (.inr t163) => (some (t163.1, t163.2.1, (p0.1, t163.2.2))))))
theorem t36 (k : Nat) (p0 : ((List Int) × Int)) (s0 : St) {b0 : Nat} {A0_1 : Option Addr} {c0_1 : Nat} (h0 : s0.get b0 = some (AObj.box 71 [(Value.slice A0_1 (p0.1).length c0_1), (Value.int .i64 p0.2)])) (g0 : b0 < s0.next) (h0_1 : Sr (rI .u8) s0 A0_1 c0_1 p0.1) :
    Rf (p36 k p0) (fun _ => True) (fun r => RtC s0.next [b0] [b0] s0 (P36 s0.next [b0] b0 r)) (acall E k 36 [(Value.pointer (some ⟨b0, 0, none⟩))] s0) := by
  cases k with
  | zero => exact Rf.none
  | succ n =>
    rw [e36 n]
    rw [p36]
    refine Rf.gen fun H Q hH hQ => ?_
    have C0 : Cx s0.next [b0] [b0] s0 s0 [(b0, AObj.box 71 [(Value.slice A0_1 (p0.1).length c0_1), (Value.int .i64 p0.2)])] [] [] := Cx.startB h0 g0
    refine Rf.loop (Inv := Inv36_1 s0 p0 b0 A0_1 c0_1 h0 g0 h0_1 ) (Ex := Ex36_1 s0 p0 b0 A0_1 c0_1 h0 g0 h0_1 ) (x36_1 s0 p0 b0 A0_1 c0_1 h0 g0 h0_1 ) (fun t g s K Q h => b36_1 n s0 p0 b0 A0_1 c0_1 h0 g0 h0_1  t g s K Q h) n _ _ _ ⟨rfl, (C0.sub (List.Sublist.refl _) (List.Sublist.refl _) (List.Sublist.refl _))⟩ ?_
    intro t e g s h
    rcases t with t106 | t163
    · generalize s = s161 at h ⊢
      obtain ⟨rfl, rfl, C162⟩ := h
      rw [e36_after0_exit0 n]
      subst hH; subst hQ
      exact Rf.leaf fun _ => Ev.done (Rf.ret C162 ⟨_, _, rfl, (C162.sr0 rfl h0_1), (C162.obj _ m0).1⟩)
    · generalize s = s218 at h ⊢
      obtain ⟨rfl, rfl, C219⟩ := h
      rw [e36_after0_ret n]
      subst hH; subst hQ
      exact Rf.leaf fun _ => Ev.done (Rf.ret C219 ⟨_, _, rfl, (C219.sr0 rfl h0_1), (C219.obj _ m0).1⟩)
-- 37 "brindlewood/tables.unfold"
abbrev P37 (N : Nat) (X : List Nat) (r : Int) (v : Value) (s : St) : Prop := v = (Value.int .i64 r)
def p37 : Nat → Int → Option Int
  | 0, _ => none
  | n + 1, p0 => (pj (fun (x3 : Int) => divP .i64 x3 2 (fun x7 => (some x7))) (fun J2 => remP .i64 p0 2 (fun x1 => (if ((x1 : Int) == 1) then ((J2 (IntKind.wrap .i64 ((IntKind.wrap .i64 (0 - p0)) - 1)))) else ((J2 p0))))))
theorem t37 (k : Nat) (p0 : Int) (s0 : St) :
    Rf (p37 k p0) (fun _ => True) (fun r => RtC s0.next [] [] s0 (P37 s0.next [] r)) (acall E k 37 [(Value.int .i64 p0)] s0) := by
  cases k with
  | zero => exact Rf.none
  | succ n =>
    rw [e37 n]
    rw [p37]
    refine Rf.gen fun H Q hH hQ => ?_
    have C0 : Cx s0.next [] [] s0 s0 [] [] [] := Cx.start s0
    refine Rf.pj fun J2 J2' hJ2 hJ2' => ?_
    have J2h : ∀ (e5 : Value) (x3 : Int) (_ : Cx s0.next [] [] s0 s0 [] [] []), Rf (J2 x3) H Q (J2' x3 e5) := by
      subst hJ2
      subst hJ2'
      intro e5 x3 C6
      refine Rf.divI fun x7 => ?_
      subst hH; subst hQ
      exact Rf.leaf fun _ => Ev.done (Rf.ret C6 rfl)
    clear hJ2 hJ2'
    refine Rf.remI fun x1 => ?_
    refine Rf.ite ?_ ?_
    · exact J2h _ (IntKind.wrap .i64 ((IntKind.wrap .i64 (0 - p0)) - 1)) (C0.sub (List.Sublist.refl _) (List.Sublist.refl _) (List.Sublist.refl _))
    · exact J2h _ p0 (C0.sub (List.Sublist.refl _) (List.Sublist.refl _) (List.Sublist.refl _))
-- 14 "brindlewood/tables.UnpackLines"
abbrev Inv14_1 (s0 : St) (p0 : (List Int)) (A0 : Option Addr) (c0 : Nat) (h0 : Sr (rI .u8) s0 A0 c0 p0) (i22 : Nat) (i23 : Nat) (t : ((List Int) × Int × (List (Int × Int)) × Int × Int)) (g : Regs) (s : St) : Prop := ∃ (A8 : Option Addr) (c9 : Nat) (A17 : Option Addr) (c18 : Nat), g = (rg 69 [(0, (Value.slice A0 (p0).length c0)), (3, (Value.pointer (some ⟨i23, 0, none⟩))), (4, (Value.pointer (some ⟨i22, 0, none⟩))), (5, (Value.slice A17 (t.2.2.1).length c18)), (6, (Value.int .i64 t.2.2.2.1)), (7, (Value.int .i64 t.2.2.2.2))]) ∧ Cx s0.next [] [] s0 s [(i22, AObj.box 71 [(Value.slice A8 (t.1).length c9), (Value.int .i64 t.2.1)]), (i23, AObj.box 24 [(Value.int .i64 0), (Value.int .i64 0)])] [(On.mk (rP (rI .i64) (rI .i64)) t.2.2.1 A17 c18 38)] [(Fa.sr (rI .u8) A8 c9 t.1)]
abbrev Ex14_1 (s0 : St) (p0 : (List Int)) (A0 : Option Addr) (c0 : Nat) (h0 : Sr (rI .u8) s0 A0 c0 p0) (i22 : Nat) (i23 : Nat) (t : (((List Int) × Int × (List (Int × Int)) × Int × Int) ⊕ (Int × Int))) (e : X) (g : Regs) (s : St) : Prop := match t with
  | (.inl t) => ∃ (A159 : Option Addr) (c160 : Nat) (A164 : Option Addr) (c165 : Nat), e = .exit 0 ∧ g = (rg 69 [(0, (Value.slice A0 (p0).length c0)), (3, (Value.pointer (some ⟨i23, 0, none⟩))), (4, (Value.pointer (some ⟨i22, 0, none⟩))), (5, (Value.slice A164 (t.2.2.1).length c165)), (6, (Value.int .i64 t.2.2.2.1)), (7, (Value.int .i64 t.2.2.2.2)), (23, (Value.bool false))]) ∧ Cx s0.next [] [] s0 s [(i22, AObj.box 71 [(Value.slice A159 (t.1).length c160), (Value.int .i64 t.2.1)]), (i23, AObj.box 24 [(Value.int .i64 0), (Value.int .i64 0)])] [(On.mk (rP (rI .i64) (rI .i64)) t.2.2.1 A164 c165 38)] [(Fa.sr (rI .u8) A159 c160 t.1)]
  | (.inr t) => e = .ret ∧ g = (rg 69 [(2, (Value.slice none 0 0)), (3, (Value.pointer (some ⟨i23, 0, none⟩)))]) ∧ Cx s0.next [] [] s0 s [(i23, AObj.box 24 [(Value.int .i64 t.1), (Value.int .i64 t.2)])] [] []
theorem x14_1 (s0 : St) (p0 : (List Int)) (A0 : Option Addr) (c0 : Nat) (h0 : Sr (rI .u8) s0 A0 c0 p0) (i22 : Nat) (i23 : Nat) (t : (((List Int) × Int × (List (Int × Int)) × Int × Int) ⊕ (Int × Int))) (e : X) (g : Regs) (s : St) (h : Ex14_1 s0 p0 A0 c0 h0 i22 i23 t e g s) : e ≠ .normal := by
  rcases t with t | t
  · obtain ⟨_, _, _, _, h, _⟩ := h
    rw [h]; intro hh; cases hh
  · obtain ⟨h, _⟩ := h
    rw [h]; intro hh; cases hh
def pb14_1 (n : Nat) (p0 : (List Int)) (t : ((List Int) × Int × (List (Int × Int)) × Int × Int)) : Option (((List Int) × Int × (List (Int × Int)) × Int × Int) ⊕ (((List Int) × Int × (List (Int × Int)) × Int × Int) ⊕ (Int × Int))) :=
  (if (decide ((t.2.1 : Int) < ((p0).length : Nat))) then ((((p36 n (t.1, t.2.1)).bind fun r102 => ((p36 n (r102.2.2.1, r102.2.2.2)).bind fun r114 => (pj (fun (y130 : (List Int)) (b131 : Bool) => if b131 then ((p28 n 16 t.2.1).bind fun r134 => (((some (.inr (.inr (r134.1, r134.2))))))) else (((p37 n r114.1).bind fun r142 => (apP 16 t.2.2.1 [((IntKind.wrap .i64 (t.2.2.2.1 + r102.1)), (IntKind.wrap .i64 (t.2.2.2.2 + r142)))] (fun y152 => (some (.inl (y130, r114.2.2.2, (t.2.2.1 ++ [((IntKind.wrap .i64 (t.2.2.2.1 + r102.1)), (IntKind.wrap .i64 (t.2.2.2.2 + r142)))]), (IntKind.wrap .i64 (t.2.2.2.1 + r102.1)), (IntKind.wrap .i64 (t.2.2.2.2 + r142)))))))))) (fun J126 => if (!r102.2.1) then ((J126 r114.2.2.1 true)) else ((J126 r114.2.2.1 (!r114.2.1))))))))) else (((some (.inr (.inl (t.1, t.2.1, t.2.2.1, t.2.2.2.1, t.2.2.2.2)))))))
theorem b14_1 (n : Nat) (s0 : St) (p0 : (List Int)) (A0 : Option Addr) (c0 : Nat) (h0 : Sr (rI .u8) s0 A0 c0 p0) (i22 : Nat) (i23 : Nat) (t : ((List Int) × Int × (List (Int × Int)) × Int × Int)) (g : Regs) (s93 : St) (K : Kont) (Q : Out → St → Prop) (h : Inv14_1 s0 p0 A0 c0 h0 i22 i23 t g s93) :
    Rf (pb14_1 n p0 t) (fun r => ∀ e g' s', LK (Inv14_1 s0 p0 A0 c0 h0 i22 i23) (Ex14_1 s0 p0 A0 c0 h0 i22 i23) r e g' s' → Ev (K e g' s') Q) (fun _ => Q) (kBody E 14 n [.b, .b, .b, .b, .a, .a, .a] g s93 K) := by
  obtain ⟨y10, x13, y19, x20, x21⟩ := t
  obtain ⟨A8, c9, A17, c18, rfl, C94⟩ := h
  rw [e14_body0 n]
  unfold pb14_1
  refine Rf.gen fun H Q hH hQ => ?_
  try dsimp only
  refine Rf.ldI (C94.at m0 rfl) ?_
  refine Rf.ite ?_ ?_
  · refine Rf.ldI (C94.at m0 rfl) ?_
    refine Rf.callB 0 C94 rfl (t36 n (y10, x13) s93 (C94.obj _ m0).1 (C94.obj _ m0).2.1 (C94.srG m0)) ?_
    rintro r102 _ s103 ⟨A104, c105, rfl, h106, h108⟩ h111
    have C112 : Cx s0.next [] [] s0 s103 [(i22, AObj.box 71 [(Value.slice A104 (r102.2.2.1).length c105), (Value.int .i64 r102.2.2.2)]), (i23, AObj.box 24 [(Value.int .i64 0), (Value.int .i64 0)])] [(On.mk (rP (rI .i64) (rI .i64)) y19 A17 c18 38)] [(Fa.sr (rI .u8) A8 c9 y10)] := h111 _ h108 [] (by simp) List.Pairwise.nil
    have C113 := C112.add (Fa.sr (rI .u8) A104 c105 r102.2.2.1) h106
    refine (Rf.asTup (Rf.unc (Rf.asI (Rf.unc (Rf.asB (Rf.unn ?_))))))
    refine Rf.callB 0 C113 rfl (t36 n (r102.2.2.1, r102.2.2.2) s103 (C113.obj _ m0).1 (C113.obj _ m0).2.1 (C113.srG m0)) ?_
    rintro r114 _ s115 ⟨A116, c117, rfl, h118, h120⟩ h123
    have C124 : Cx s0.next [] [] s0 s115 [(i22, AObj.box 71 [(Value.slice A116 (r114.2.2.1).length c117), (Value.int .i64 r114.2.2.2)]), (i23, AObj.box 24 [(Value.int .i64 0), (Value.int .i64 0)])] [(On.mk (rP (rI .i64) (rI .i64)) y19 A17 c18 38)] [(Fa.sr (rI .u8) A104 c105 r102.2.2.1), (Fa.sr (rI .u8) A8 c9 y10)] := h123 _ h120 [] (by simp) List.Pairwise.nil
    have C125 := C124.add (Fa.sr (rI .u8) A116 c117 r114.2.2.1) h118
    refine (Rf.asTup (Rf.unc (Rf.asI (Rf.unc (Rf.asB (Rf.unn ?_))))))
    refine Rf.pj fun J126 J126' hJ126 hJ126' => ?_
    have J126h : ∀ (A128 : Option Addr) (c129 : Nat) (y130 : (List Int)) (b131 : Bool) (_ : Cx s0.next [] [] s0 s115 [(i22, AObj.box 71 [(Value.slice A128 (y130).length c129), (Value.int .i64 r114.2.2.2)]), (i23, AObj.box 24 [(Value.int .i64 0), (Value.int .i64 0)])] [(On.mk (rP (rI .i64) (rI .i64)) y19 A17 c18 38)] [(Fa.sr (rI .u8) A128 c129 y130)]), Rf (J126 y130 b131) H Q (J126' b131) := by
      subst hJ126
      subst hJ126'
      intro A128 c129 y130 b131 C133
      refine Rf.ite ?_ ?_
      · refine Rf.call0 C133 (t28 n 16 x13 s115) ?_
        rintro r134 _ s135 rfl h138
        have C139 : Cx s0.next [] [] s0 s135 [(i22, AObj.box 71 [(Value.slice A128 (y130).length c129), (Value.int .i64 r114.2.2.2)]), (i23, AObj.box 24 [(Value.int .i64 0), (Value.int .i64 0)])] [(On.mk (rP (rI .i64) (rI .i64)) y19 A17 c18 38)] [(Fa.sr (rI .u8) A128 c129 y130)] := h138 [] (by simp) List.Pairwise.nil
        refine (Rf.asAgg (Rf.unc (Rf.asI (Rf.unc (Rf.asI (Rf.unn ?_))))))
        refine Rf.sto 1 C139 rfl (by simp) rfl fun s140 (C141 : Cx s0.next [] [] s0 s140 [(i22, AObj.box 71 [(Value.slice A128 (y130).length c129), (Value.int .i64 r114.2.2.2)]), (i23, AObj.box 24 [(Value.int .i64 r134.1), (Value.int .i64 r134.2)])] [(On.mk (rP (rI .i64) (rI .i64)) y19 A17 c18 38)] [(Fa.sr (rI .u8) A128 c129 y130)]) => ?_
        subst hH; subst hQ
        exact Rf.leaf fun h => h _ _ _ ⟨rfl, rfl, (C141.sub (List.Sublist.cons _ (List.Sublist.cons_cons _ List.Sublist.slnil)) (List.Sublist.cons _ List.Sublist.slnil) (List.Sublist.cons _ List.Sublist.slnil))⟩
      · refine Rf.call0 C133 (t37 n r114.1 s115) ?_
        rintro r142 _ s143 rfl h145
        have C146 : Cx s0.next [] [] s0 s143 [(i22, AObj.box 71 [(Value.slice A128 (y130).length c129), (Value.int .i64 r114.2.2.2)]), (i23, AObj.box 24 [(Value.int .i64 0), (Value.int .i64 0)])] [(On.mk (rP (rI .i64) (rI .i64)) y19 A17 c18 38)] [(Fa.sr (rI .u8) A128 c129 y130)] := h145 [] (by simp) List.Pairwise.nil
        refine (Rf.asI ?_)
        refine Rf.newR (r := (rP (rI .i64) (rI .i64))) (xs := [((IntKind.wrap .i64 (x20 + r102.1)), (IntKind.wrap .i64 (x21 + r142)))]) C146 rfl (many.cons (c := [(Value.int .i64 (IntKind.wrap .i64 (x20 + r102.1))), (Value.int .i64 (IntKind.wrap .i64 (x21 + r142)))]) (rP_mk rI_mk rI_mk) many.nil) fun s147 (C148 : Cx s0.next [] [] s0 s147 [(i22, AObj.box 71 [(Value.slice A128 (y130).length c129), (Value.int .i64 r114.2.2.2)]), (i23, AObj.box 24 [(Value.int .i64 0), (Value.int .i64 0)])] [(On.mk (rP (rI .i64) (rI .i64)) [((IntKind.wrap .i64 (x20 + r102.1)), (IntKind.wrap .i64 (x21 + r142)))] (some ⟨s143.next, 0, none⟩) 1 38), (On.mk (rP (rI .i64) (rI .i64)) y19 A17 c18 38)] [(Fa.sr (rI .u8) A128 c129 y130)]) => ?_
        refine Rf.kapp 1 C148 rfl rfl (by decide) (by decide) (Ap.sr u22 rfl (C148.srB m0)) fun A150 c151 s154 (C155 : Cx s0.next [] [] s0 s154 [(i22, AObj.box 71 [(Value.slice A128 (y130).length c129), (Value.int .i64 r114.2.2.2)]), (i23, AObj.box 24 [(Value.int .i64 0), (Value.int .i64 0)])] [(On.mk (rP (rI .i64) (rI .i64)) [((IntKind.wrap .i64 (x20 + r102.1)), (IntKind.wrap .i64 (x21 + r142)))] (some ⟨s143.next, 0, none⟩) 1 38), (On.mk (rP (rI .i64) (rI .i64)) (y19 ++ [((IntKind.wrap .i64 (x20 + r102.1)), (IntKind.wrap .i64 (x21 + r142)))]) A150 c151 38)] [(Fa.sr (rI .u8) A128 c129 y130)]) => ?_
        have C156 : Cx s0.next [] [] s0 s154 [(i22, AObj.box 71 [(Value.slice A128 (y130).length c129), (Value.int .i64 r114.2.2.2)]), (i23, AObj.box 24 [(Value.int .i64 0), (Value.int .i64 0)])] [(On.mk (rP (rI .i64) (rI .i64)) (y19 ++ [((IntKind.wrap .i64 (x20 + r102.1)), (IntKind.wrap .i64 (x21 + r142)))]) A150 c151 38)] [(Fa.sr (rI .u8) A128 c129 y130)] := C155.sub (List.Sublist.refl _) (List.Sublist.cons _ (List.Sublist.cons_cons _ List.Sublist.slnil)) (List.Sublist.refl _)
        subst hH; subst hQ
        exact Rf.leaf fun h => h _ _ _ ⟨rfl, _, _, _, _, rfl, (C156.sub (List.Sublist.refl _) (List.Sublist.refl _) (List.Sublist.refl _))⟩
    clear hJ126 hJ126'
    refine Rf.ite ?_ ?_
    · exact J126h A116 c117 r114.2.2.1 true (C125.sub (List.Sublist.refl _) (List.Sublist.refl _) (List.Sublist.cons_cons _ (List.Sublist.cons _ (List.Sublist.cons _ List.Sublist.slnil))))
    · exact J126h A116 c117 r114.2.2.1 (!r114.2.1) (C125.sub (List.Sublist.refl _) (List.Sublist.refl _) (List.Sublist.cons_cons _ (List.Sublist.cons _ (List.Sublist.cons _ List.Sublist.slnil))))
  · subst hH; subst hQ
    exact Rf.leaf fun h => h _ _ _ ⟨_, _, _, _, rfl, rfl, (C94.sub (List.Sublist.refl _) (List.Sublist.refl _) (List.Sublist.refl _))⟩
abbrev P14 (N : Nat) (X : List Nat) (r : ((List (Int × Int)) × (Int × Int))) (v : Value) (s : St) : Prop := ∃ (A0 : Option Addr) (c0 : Nat), v = (Value.tuple #[(Value.slice A0 (r.1).length c0), (Value.agg #[(Value.int .i64 r.2.1), (Value.int .i64 r.2.2)])]) ∧ (On.mk (rP (rI .i64) (rI .i64)) r.1 A0 c0 38).holds N X s
def p14 : Nat → (List Int) → Option ((List (Int × Int)) × (Int × Int))
  | 0, _ => none
  | n + 1, p0 => (((((loopP (pb14_1 n p0) n (p0, 0, ([] : List (Int × Int)), 0, 0)).bind fun t347 => match t347 with | (.inl t171) => ((p27 n t171.2.2.1).bind fun r243 => ((if (!(((r243.1 : Int) == 0) && (((r243.2 : Int) == 0) && true))) then ((p28 n r243.1 (-1)).bind fun r259 => ((some (([] : (List (Int × Int))), (r259.1, r259.2))))) else (((some (t171.2.2.1, (0, 0)))))))) | (.inr t273) => (some (([] : (List (Int × Int))), (t273.1, t273.2)))))))
theorem t14 (k : Nat) (p0 : (List Int)) (s0 : St) {A0 : Option Addr} {c0 : Nat} (h0 : Sr (rI .u8) s0 A0 c0 p0) :
    Rf (p14 k p0) (fun _ => True) (fun r => RtC s0.next [] [] s0 (P14 s0.next [] r)) (acall E k 14 [(Value.slice A0 (p0).length c0)] s0) := by
  cases k with
  | zero => exact Rf.none
  | succ n =>
    rw [e14 n]
    rw [p14]
    refine Rf.gen fun H Q hH hQ => ?_
    have C0 : Cx s0.next [] [] s0 s0 [] [] [] := Cx.start s0
    refine Rf.new C0 fun s1 (C2 : Cx s0.next [] [] s0 s1 [(s0.next, AObj.box 24 [(Value.int .i64 0), (Value.int .i64 0)])] [] []) => ?_
    refine Rf.new C2 fun s4 (C5 : Cx s0.next [] [] s0 s4 [(s1.next, AObj.box 71 [(Value.slice A0 (p0).length c0), (Value.int .i64 0)]), (s0.next, AObj.box 24 [(Value.int .i64 0), (Value.int .i64 0)])] [] []) => ?_
    have C12 := C5.add (Fa.sr (rI .u8) A0 c0 p0) (C5.sr0 rfl h0)
    have C15 : Cx s0.next [] [] s0 s4 [(s1.next, AObj.box 71 [(Value.slice A0 (p0).length c0), (Value.int .i64 0)]), (s0.next, AObj.box 24 [(Value.int .i64 0), (Value.int .i64 0)])] [(On.mk (rP (rI .i64) (rI .i64)) ([] : List (Int × Int)) none 0 38)] [(Fa.sr (rI .u8) A0 c0 p0)] := C12.addNil (rP (rI .i64) (rI .i64)) 38
    refine Rf.loop (Inv := Inv14_1 s0 p0 A0 c0 h0 s1.next s0.next) (Ex := Ex14_1 s0 p0 A0 c0 h0 s1.next s0.next) (x14_1 s0 p0 A0 c0 h0 s1.next s0.next) (fun t g s K Q h => b14_1 n s0 p0 A0 c0 h0 s1.next s0.next t g s K Q h) n _ _ _ ⟨_, _, _, _, rfl, (C15.sub (List.Sublist.refl _) (List.Sublist.refl _) (List.Sublist.refl _))⟩ ?_
    intro t e g s h
    rcases t with t171 | t273
    · generalize s = s241 at h ⊢
      obtain ⟨A159, c160, A164, c165, rfl, rfl, C242⟩ := h
      rw [e14_after0_exit0 n]
      refine Rf.call0 C242 (t27 n t171.2.2.1 s241 (C242.srB m0)) ?_
      rintro r243 _ s244 rfl h247
      have C248 : Cx s0.next [] [] s0 s244 [(s1.next, AObj.box 71 [(Value.slice A159 (t171.1).length c160), (Value.int .i64 t171.2.1)]), (s0.next, AObj.box 24 [(Value.int .i64 0), (Value.int .i64 0)])] [(On.mk (rP (rI .i64) (rI .i64)) t171.2.2.1 A164 c165 38)] [(Fa.sr (rI .u8) A159 c160 t171.1)] := h247 [] (by simp) List.Pairwise.nil
      refine (Rf.asAgg (Rf.unc (Rf.asI (Rf.unc (Rf.asI (Rf.unn ?_))))))
      refine Rf.new C248 fun s249 (C250 : Cx s0.next [] [] s0 s249 [(s244.next, AObj.box 24 [(Value.int .i64 0), (Value.int .i64 0)]), (s1.next, AObj.box 71 [(Value.slice A159 (t171.1).length c160), (Value.int .i64 t171.2.1)]), (s0.next, AObj.box 24 [(Value.int .i64 0), (Value.int .i64 0)])] [(On.mk (rP (rI .i64) (rI .i64)) t171.2.2.1 A164 c165 38)] [(Fa.sr (rI .u8) A159 c160 t171.1)]) => ?_
      refine Rf.sto 0 C250 rfl (by simp) rfl fun s252 (C253 : Cx s0.next [] [] s0 s252 [(s244.next, AObj.box 24 [(Value.int .i64 r243.1), (Value.int .i64 r243.2)]), (s1.next, AObj.box 71 [(Value.slice A159 (t171.1).length c160), (Value.int .i64 t171.2.1)]), (s0.next, AObj.box 24 [(Value.int .i64 0), (Value.int .i64 0)])] [(On.mk (rP (rI .i64) (rI .i64)) t171.2.2.1 A164 c165 38)] [(Fa.sr (rI .u8) A159 c160 t171.1)]) => ?_
      refine Rf.ldI (C253.at m0 rfl) ?_
      refine Rf.ldI (C253.at m0 rfl) ?_
      refine Rf.ite ?_ ?_
      · refine Rf.ldI (C253.at m0 rfl) ?_
        refine Rf.call0 C253 (t28 n r243.1 (-1) s252) ?_
        rintro r259 _ s260 rfl h263
        have C264 : Cx s0.next [] [] s0 s260 [(s244.next, AObj.box 24 [(Value.int .i64 r243.1), (Value.int .i64 r243.2)]), (s1.next, AObj.box 71 [(Value.slice A159 (t171.1).length c160), (Value.int .i64 t171.2.1)]), (s0.next, AObj.box 24 [(Value.int .i64 0), (Value.int .i64 0)])] [(On.mk (rP (rI .i64) (rI .i64)) t171.2.2.1 A164 c165 38)] [(Fa.sr (rI .u8) A159 c160 t171.1)] := h263 [] (by simp) List.Pairwise.nil
        refine (Rf.asAgg (Rf.unc (Rf.asI (Rf.unc (Rf.asI (Rf.unn ?_))))))
        refine Rf.sto 2 C264 rfl (by simp) rfl fun s265 (C266 : Cx s0.next [] [] s0 s265 [(s244.next, AObj.box 24 [(Value.int .i64 r243.1), (Value.int .i64 r243.2)]), (s1.next, AObj.box 71 [(Value.slice A159 (t171.1).length c160), (Value.int .i64 t171.2.1)]), (s0.next, AObj.box 24 [(Value.int .i64 r259.1), (Value.int .i64 r259.2)])] [(On.mk (rP (rI .i64) (rI .i64)) t171.2.2.1 A164 c165 38)] [(Fa.sr (rI .u8) A159 c160 t171.1)]) => ?_
        refine Rf.ldI (C266.at m2 rfl) ?_
        refine Rf.ldI (C266.at m2 rfl) ?_
        subst hH; subst hQ
        exact Rf.leaf fun _ => Ev.done (Rf.ret C266 ⟨_, _, rfl, .inl ⟨rfl, rfl, rfl⟩⟩)
      · refine Rf.sto 2 C253 rfl (by simp) rfl fun s269 (C270 : Cx s0.next [] [] s0 s269 [(s244.next, AObj.box 24 [(Value.int .i64 r243.1), (Value.int .i64 r243.2)]), (s1.next, AObj.box 71 [(Value.slice A159 (t171.1).length c160), (Value.int .i64 t171.2.1)]), (s0.next, AObj.box 24 [(Value.int .i64 0), (Value.int .i64 0)])] [(On.mk (rP (rI .i64) (rI .i64)) t171.2.2.1 A164 c165 38)] [(Fa.sr (rI .u8) A159 c160 t171.1)]) => ?_
        refine Rf.ldI (C270.at m2 rfl) ?_
        refine Rf.ldI (C270.at m2 rfl) ?_
        subst hH; subst hQ
        exact Rf.leaf fun _ => Ev.done (Rf.ret C270 ⟨_, _, rfl, C270.own _ m0⟩)
    · generalize s = s343 at h ⊢
      obtain ⟨rfl, rfl, C344⟩ := h
      rw [e14_after0_ret n]
      refine Rf.ldI (C344.at m0 rfl) ?_
      refine Rf.ldI (C344.at m0 rfl) ?_
      subst hH; subst hQ
      exact Rf.leaf fun _ => Ev.done (Rf.ret C344 ⟨_, _, rfl, .inl ⟨rfl, rfl, rfl⟩⟩)
-- 15 "slices.Equal[[]brindlewood/api.LineMark,brindlewood/api.LineMark]"
abbrev Inv15_1 (s0 : St) (p0 : (List (Int × Int))) (p1 : (List (Int × Int))) (A0 : Option Addr) (c0 : Nat) (A1 : Option Addr) (c1 : Nat) (h0 : Sr (rP (rI .i64) (rI .i64)) s0 A0 c0 p0) (h1 : Sr (rP (rI .i64) (rI .i64)) s0 A1 c1 p1)  (t : Int) (g : Regs) (s : St) : Prop := g = (rg 26 [(0, (Value.slice A0 (p0).length c0)), (1, (Value.slice A1 (p1).length c1)), (12, (Value.int .i64 ((p0).length : Nat))), (13, (Value.int .i64 t))]) ∧ Cx s0.next [] [] s0 s [] [] []
abbrev Ex15_1 (s0 : St) (p0 : (List (Int × Int))) (p1 : (List (Int × Int))) (A0 : Option Addr) (c0 : Nat) (A1 : Option Addr) (c1 : Nat) (h0 : Sr (rP (rI .i64) (rI .i64)) s0 A0 c0 p0) (h1 : Sr (rP (rI .i64) (rI .i64)) s0 A1 c1 p1)  (t : (Int ⊕ Unit)) (e : X) (g : Regs) (s : St) : Prop := match t with
  | (.inl t) => e = .exit 0 ∧ g = (rg 26 [(0, (Value.slice A0 (p0).length c0)), (1, (Value.slice A1 (p1).length c1)), (12, (Value.int .i64 ((p0).length : Nat))), (13, (Value.int .i64 t)), (14, (Value.bool false))]) ∧ Cx s0.next [] [] s0 s [] [] []
  | (.inr t) => e = .ret ∧ g = (rg 26 [(4, (Value.bool false))]) ∧ Cx s0.next [] [] s0 s [] [] []
theorem x15_1 (s0 : St) (p0 : (List (Int × Int))) (p1 : (List (Int × Int))) (A0 : Option Addr) (c0 : Nat) (A1 : Option Addr) (c1 : Nat) (h0 : Sr (rP (rI .i64) (rI .i64)) s0 A0 c0 p0) (h1 : Sr (rP (rI .i64) (rI .i64)) s0 A1 c1 p1)  (t : (Int ⊕ Unit)) (e : X) (g : Regs) (s : St) (h : Ex15_1 s0 p0 p1 A0 c0 A1 c1 h0 h1  t e g s) : e ≠ .normal := by
  rcases t with t | t
  · obtain ⟨h, _⟩ := h
    rw [h]; intro hh; cases hh
  · obtain ⟨h, _⟩ := h
    rw [h]; intro hh; cases hh
def pb15_1 (n : Nat) (p0 : (List (Int × Int))) (p1 : (List (Int × Int))) (t : Int) : Option (Int ⊕ (Int ⊕ Unit)) :=
  (if (decide ((t : Int) < ((p0).length : Nat))) then (((rd p0 t (fun x31 => rd p1 t (fun x47 => (if (!(((x31.1 : Int) == x47.1) && (((x31.2 : Int) == x47.2) && true))) then ((((some (.inr (.inr ())))))) else (((some (.inl (IntKind.wrap .i64 (t + 1)))))))))))) else (((some (.inr (.inl t))))))
theorem b15_1 (n : Nat) (s0 : St) (p0 : (List (Int × Int))) (p1 : (List (Int × Int))) (A0 : Option Addr) (c0 : Nat) (A1 : Option Addr) (c1 : Nat) (h0 : Sr (rP (rI .i64) (rI .i64)) s0 A0 c0 p0) (h1 : Sr (rP (rI .i64) (rI .i64)) s0 A1 c1 p1)  (x1 : Int) (g : Regs) (s28 : St) (K : Kont) (Q : Out → St → Prop) (h : Inv15_1 s0 p0 p1 A0 c0 A1 c1 h0 h1  x1 g s28) :
    Rf (pb15_1 n p0 p1 x1) (fun r => ∀ e g' s', LK (Inv15_1 s0 p0 p1 A0 c0 A1 c1 h0 h1 ) (Ex15_1 s0 p0 p1 A0 c0 A1 c1 h0 h1 ) r e g' s' → Ev (K e g' s') Q) (fun _ => Q) (kBody E 15 n [.b, .b, .a, .b, .a, .a] g s28 K) := by
  obtain ⟨rfl, C29⟩ := h
  rw [e15_body0 n]
  unfold pb15_1
  refine Rf.gen fun H Q hH hQ => ?_
  refine Rf.ite ?_ ?_
  · refine Rf.elt (r := (rP (rI .i64) (rI .i64))) (C29.sr0 rfl h0) rfl fun x31 i32 o33 c34 r35 h36 => ?_
    obtain ⟨c41, c42, rfl, r43, r44⟩ := rP_elim r35
    obtain rfl := rI_elim r43
    obtain rfl := rI_elim r44
    refine Rf.ldI (h36.at 0 rfl) ?_
    refine Rf.ldI (h36.at 1 rfl) ?_
    refine Rf.elt (r := (rP (rI .i64) (rI .i64))) (C29.sr0 rfl h1) rfl fun x47 i48 o49 c50 r51 h52 => ?_
    obtain ⟨c57, c58, rfl, r59, r60⟩ := rP_elim r51
    obtain rfl := rI_elim r59
    obtain rfl := rI_elim r60
    refine Rf.ldI (h52.at 0 rfl) ?_
    refine Rf.ldI (h52.at 1 rfl) ?_
    refine Rf.ite ?_ ?_
    · subst hH; subst hQ
      exact Rf.leaf fun h => h _ _ _ ⟨rfl, rfl, (C29.sub (List.Sublist.refl _) (List.Sublist.refl _) (List.Sublist.refl _))⟩
    · subst hH; subst hQ
      exact Rf.leaf fun h => h _ _ _ ⟨rfl, rfl, (C29.sub (List.Sublist.refl _) (List.Sublist.refl _) (List.Sublist.refl _))⟩
  · subst hH; subst hQ
    exact Rf.leaf fun h => h _ _ _ ⟨rfl, rfl, (C29.sub (List.Sublist.refl _) (List.Sublist.refl _) (List.Sublist.refl _))⟩
abbrev P15 (N : Nat) (X : List Nat) (r : Bool) (v : Value) (s : St) : Prop := v = (Value.bool r)
def p15 : Nat → (List (Int × Int)) → (List (Int × Int)) → Option Bool
  | 0, _, _ => none
  | n + 1, p0, p1 => ((if ((((p0).length : Nat) : Int) != ((p1).length : Nat)) then (((some false))) else ((((loopP (pb15_1 n p0 p1) n 0).bind fun t122 => match t122 with | (.inl t64) => ((some true)) | (.inr t93) => (some false))))))
theorem t15 (k : Nat) (p0 : (List (Int × Int))) (p1 : (List (Int × Int))) (s0 : St) {A0 : Option Addr} {c0 : Nat} {A1 : Option Addr} {c1 : Nat} (h0 : Sr (rP (rI .i64) (rI .i64)) s0 A0 c0 p0) (h1 : Sr (rP (rI .i64) (rI .i64)) s0 A1 c1 p1) :
    Rf (p15 k p0 p1) (fun _ => True) (fun r => RtC s0.next [] [] s0 (P15 s0.next [] r)) (acall E k 15 [(Value.slice A0 (p0).length c0), (Value.slice A1 (p1).length c1)] s0) := by
  cases k with
  | zero => exact Rf.none
  | succ n =>
    rw [e15 n]
    rw [p15]
    refine Rf.gen fun H Q hH hQ => ?_
    have C0 : Cx s0.next [] [] s0 s0 [] [] [] := Cx.start s0
    refine Rf.ite ?_ ?_
    · subst hH; subst hQ
      exact Rf.leaf fun _ => Ev.done (Rf.ret C0 rfl)
    · refine Rf.loop (Inv := Inv15_1 s0 p0 p1 A0 c0 A1 c1 h0 h1 ) (Ex := Ex15_1 s0 p0 p1 A0 c0 A1 c1 h0 h1 ) (x15_1 s0 p0 p1 A0 c0 A1 c1 h0 h1 ) (fun t g s K Q h => b15_1 n s0 p0 p1 A0 c0 A1 c1 h0 h1  t g s K Q h) n _ _ _ ⟨rfl, (C0.sub (List.Sublist.refl _) (List.Sublist.refl _) (List.Sublist.refl _))⟩ ?_
      intro t e g s h
      rcases t with t64 | t93
      · generalize s = s91 at h ⊢
        obtain ⟨rfl, rfl, C92⟩ := h
        rw [e15_after0_exit0 n]
        subst hH; subst hQ
        exact Rf.leaf fun _ => Ev.done (Rf.ret C92 rfl)
      · generalize s = s120 at h ⊢
        obtain ⟨rfl, rfl, C121⟩ := h
        rw [e15_after0_ret n]
        subst hH; subst hQ
        exact Rf.leaf fun _ => Ev.done (Rf.ret C121 rfl)
-- 38 "brindlewood/brindlewoodref7.Septet"
abbrev Inv38_1 (s0 : St) (p0 : (List Int)) (p1 : Int) (A0 : Option Addr) (c0 : Nat) (b1 : Nat) (h0 : Sr (rI .u8) s0 A0 c0 p0) (h1 : s0.get b1 = some (AObj.box 3 [(Value.int .i64 p1)])) (g1 : b1 < s0.next)  (t : (Int × Int × Int × Int)) (g : Regs) (s : St) : Prop := g = (rg 49 [(0, (Value.slice A0 (p0).length c0)), (1, (Value.pointer (some ⟨b1, 0, none⟩))), (6, (Value.int .i64 t.2.1)), (7, (Value.int .i64 t.2.2.1)), (8, (Value.int .i64 t.2.2.2))]) ∧ Cx s0.next [b1] [b1] s0 s [(b1, AObj.box 3 [(Value.int .i64 t.1)])] [] []
abbrev Ex38_1 (s0 : St) (p0 : (List Int)) (p1 : Int) (A0 : Option Addr) (c0 : Nat) (b1 : Nat) (h0 : Sr (rI .u8) s0 A0 c0 p0) (h1 : s0.get b1 = some (AObj.box 3 [(Value.int .i64 p1)])) (g1 : b1 < s0.next)  (t : (Int × Int × Int)) (e : X) (g : Regs) (s : St) : Prop := e = .ret ∧ g = (rg 49 [(4, (Value.int .i64 t.1)), (5, (Value.int .i64 t.2.1))]) ∧ Cx s0.next [b1] [b1] s0 s [(b1, AObj.box 3 [(Value.int .i64 t.2.2)])] [] []
theorem x38_1 (s0 : St) (p0 : (List Int)) (p1 : Int) (A0 : Option Addr) (c0 : Nat) (b1 : Nat) (h0 : Sr (rI .u8) s0 A0 c0 p0) (h1 : s0.get b1 = some (AObj.box 3 [(Value.int .i64 p1)])) (g1 : b1 < s0.next)  (t : (Int × Int × Int)) (e : X) (g : Regs) (s : St) (h : Ex38_1 s0 p0 p1 A0 c0 b1 h0 h1 g1  t e g s) : e ≠ .normal := by
  obtain ⟨h, _⟩ := h
  rw [h]; intro hh; cases hh
def pb38_1 (n : Nat) (p0 : (List Int)) (t : (Int × Int × Int × Int)) : Option ((Int × Int × Int × Int) ⊕ (Int × Int × Int)) :=
  (if (decide ((t.1 : Int) ≥ ((p0).length : Nat))) then (((((some (.inr (0, 15, t.1))))))) else (((if ((t.2.2.2 : Int) == 3) then (((((some (.inr (0, 16, t.1))))))) else ((rd p0 t.1 (fun x61 => ((remP .i64 (IntKind.wrap .i64 x61) 128 (fun x73 => (((if (decide (((IntKind.wrap .i64 x61) : Int) < 128)) then (pj (fun (b75 : Bool) => if b75 then (((((some (.inr (0, 16, (IntKind.wrap .i64 (t.1 + 1))))))))) else (((((some (.inr ((IntKind.wrap .i64 (t.2.1 + (IntKind.wrap .i64 (x73 * t.2.2.1)))), 0, (IntKind.wrap .i64 (t.1 + 1)))))))))) (fun J74 => if (((IntKind.wrap .i64 x61) : Int) == 0) then ((J74 (decide ((t.2.2.2 : Int) > 0)))) else ((J74 false)))) else (((some (.inl ((IntKind.wrap .i64 (t.1 + 1)), (IntKind.wrap .i64 (t.2.1 + (IntKind.wrap .i64 (x73 * t.2.2.1)))), (IntKind.wrap .i64 (t.2.2.1 * 128)), (IntKind.wrap .i64 (t.2.2.2 + 1))))))))))))))))))))
theorem b38_1 (n : Nat) (s0 : St) (p0 : (List Int)) (p1 : Int) (A0 : Option Addr) (c0 : Nat) (b1 : Nat) (h0 : Sr (rI .u8) s0 A0 c0 p0) (h1 : s0.get b1 = some (AObj.box 3 [(Value.int .i64 p1)])) (g1 : b1 < s0.next)  (t : (Int × Int × Int × Int)) (g : Regs) (s54 : St) (K : Kont) (Q : Out → St → Prop) (h : Inv38_1 s0 p0 p1 A0 c0 b1 h0 h1 g1  t g s54) :
    Rf (pb38_1 n p0 t) (fun r => ∀ e g' s', LK (Inv38_1 s0 p0 p1 A0 c0 b1 h0 h1 g1 ) (Ex38_1 s0 p0 p1 A0 c0 b1 h0 h1 g1 ) r e g' s' → Ev (K e g' s') Q) (fun _ => Q) (kBody E 38 n [.b, .b, .b, .a, .a] g s54 K) := by
  obtain ⟨x1, x2, x3, x4⟩ := t
  obtain ⟨rfl, C55⟩ := h
  rw [e38_body0 n]
  unfold pb38_1
  refine Rf.gen fun H Q hH hQ => ?_
  try dsimp only
  refine Rf.nilc ?_
  refine Rf.adr1 ?_
  refine Rf.ldI (C55.at m0 rfl) ?_
  refine Rf.ite ?_ ?_
  · subst hH; subst hQ
    exact Rf.leaf fun h => h _ _ _ ⟨rfl, rfl, (C55.sub (List.Sublist.refl _) (List.Sublist.refl _) (List.Sublist.refl _))⟩
  · refine Rf.ite ?_ ?_
    · subst hH; subst hQ
      exact Rf.leaf fun h => h _ _ _ ⟨rfl, rfl, (C55.sub (List.Sublist.refl _) (List.Sublist.refl _) (List.Sublist.refl _))⟩
    · refine Rf.nilc ?_
      refine Rf.adr1 ?_
      refine Rf.ldI (C55.at m0 rfl) ?_
      refine Rf.elt (r := (rI .u8)) (C55.sr0 rfl h0) rfl fun x61 i62 o63 c64 r65 h66 => ?_
      obtain rfl := rI_elim r65
      refine Rf.ldI (h66.at 0 rfl) ?_
      refine Rf.nilc ?_
      refine Rf.adr1 ?_
      refine Rf.ldI (C55.at m0 rfl) ?_
      refine Rf.nilc ?_
      refine Rf.adr1 ?_
      refine Rf.sto 0 C55 rfl (by simp) rfl fun s71 (C72 : Cx s0.next [b1] [b1] s0 s71 [(b1, AObj.box 3 [(Value.int .i64 (IntKind.wrap .i64 (x1 + 1)))])] [] []) => ?_
      refine Rf.remI fun x73 => ?_
      refine Rf.ite ?_ ?_
      · refine Rf.pj fun J74 J74' hJ74 hJ74' => ?_
        have J74h : ∀ (b75 : Bool) (_ : Cx s0.next [b1] [b1] s0 s71 [(b1, AObj.box 3 [(Value.int .i64 (IntKind.wrap .i64 (x1 + 1)))])] [] []), Rf (J74 b75) H Q (J74' b75) := by
          subst hJ74
          subst hJ74'
          intro b75 C77
          refine Rf.ite ?_ ?_
          · subst hH; subst hQ
            exact Rf.leaf fun h => h _ _ _ ⟨rfl, rfl, (C77.sub (List.Sublist.refl _) (List.Sublist.refl _) (List.Sublist.refl _))⟩
          · subst hH; subst hQ
            exact Rf.leaf fun h => h _ _ _ ⟨rfl, rfl, (C77.sub (List.Sublist.refl _) (List.Sublist.refl _) (List.Sublist.refl _))⟩
        clear hJ74 hJ74'
        refine Rf.ite ?_ ?_
        · exact J74h (decide ((x4 : Int) > 0)) (C72.sub (List.Sublist.refl _) (List.Sublist.refl _) (List.Sublist.refl _))
        · exact J74h false (C72.sub (List.Sublist.refl _) (List.Sublist.refl _) (List.Sublist.refl _))
      · subst hH; subst hQ
        exact Rf.leaf fun h => h _ _ _ ⟨rfl, rfl, (C72.sub (List.Sublist.refl _) (List.Sublist.refl _) (List.Sublist.refl _))⟩
abbrev P38 (N : Nat) (X : List Nat) (b0 : Nat) (r : (Int × Int × Int)) (v : Value) (s : St) : Prop := v = (Value.tuple #[(Value.int .i64 r.1), (Value.int .i64 r.2.1)]) ∧ s.get b0 = some (AObj.box 3 [(Value.int .i64 r.2.2)])
def p38 : Nat → (List Int) → Int → Option (Int × Int × Int)
  | 0, _, _ => none
  | n + 1, p0, p1 => ((((loopP (pb38_1 n p0) n (p1, 0, 1, 0)).bind fun t81 => some (t81.1, t81.2.1, t81.2.2))))
theorem t38 (k : Nat) (p0 : (List Int)) (p1 : Int) (s0 : St) {A0 : Option Addr} {c0 : Nat} {b1 : Nat} (h0 : Sr (rI .u8) s0 A0 c0 p0) (h1 : s0.get b1 = some (AObj.box 3 [(Value.int .i64 p1)])) (g1 : b1 < s0.next) :
    Rf (p38 k p0 p1) (fun _ => True) (fun r => RtC s0.next [b1] [b1] s0 (P38 s0.next [b1] b1 r)) (acall E k 38 [(Value.slice A0 (p0).length c0), (Value.pointer (some ⟨b1, 0, none⟩))] s0) := by
  cases k with
  | zero => exact Rf.none
  | succ n =>
    rw [e38 n]
    rw [p38]
    refine Rf.gen fun H Q hH hQ => ?_
    have C0 : Cx s0.next [b1] [b1] s0 s0 [(b1, AObj.box 3 [(Value.int .i64 p1)])] [] [] := Cx.startB h1 g1
    refine Rf.loop (Inv := Inv38_1 s0 p0 p1 A0 c0 b1 h0 h1 g1 ) (Ex := Ex38_1 s0 p0 p1 A0 c0 b1 h0 h1 g1 ) (x38_1 s0 p0 p1 A0 c0 b1 h0 h1 g1 ) (fun t g s K Q h => b38_1 n s0 p0 p1 A0 c0 b1 h0 h1 g1  t g s K Q h) n _ _ _ ⟨rfl, (C0.sub (List.Sublist.refl _) (List.Sublist.refl _) (List.Sublist.refl _))⟩ ?_
    intro t81 e g s131 h
    obtain ⟨rfl, rfl, C132⟩ := h
    rw [e38_after0_ret n]
    subst hH; subst hQ
    exact Rf.leaf fun _ => Ev.done (Rf.ret C132 ⟨rfl, (C132.obj _ m0).1⟩)
-- 16 "brindlewood/brindlewoodref7.Groups"
abbrev Inv16_2 (s0 : St) (p0 : (List Int)) (p1 : Int) (A0 : Option Addr) (c0 : Nat) (h0 : Sr (rI .u8) s0 A0 c0 p0) (A9 : Option Addr) (c10 : Nat) (i13 : Nat) (x14 : Int) (y11 : (List (List Int))) (t : (Int × (List Int) × Int)) (g : Regs) (s : St) : Prop := ∃ (A63 : Option Addr) (c64 : Nat), g = (rg 39 [(0, (Value.slice A0 (p0).length c0)), (1, (Value.int .i64 p1)), (6, (Value.slice A9 (y11).length c10)), (7, (Value.pointer (some ⟨i13, 0, none⟩))), (8, (Value.int .i64 x14)), (9, (Value.slice A63 (t.2.1).length c64)), (17, (Value.int .i64 p1)), (18, (Value.int .i64 t.2.2))]) ∧ Cx s0.next [] [] s0 s [(i13, AObj.box 3 [(Value.int .i64 t.1)])] [(On.mk (rI .i64) t.2.1 A63 c64 3), (On.mk (rL (rI .i64)) y11 A9 c10 39)] []
abbrev Ex16_2 (s0 : St) (p0 : (List Int)) (p1 : Int) (A0 : Option Addr) (c0 : Nat) (h0 : Sr (rI .u8) s0 A0 c0 p0) (A9 : Option Addr) (c10 : Nat) (i13 : Nat) (x14 : Int) (y11 : (List (List Int))) (t : ((Int × (List Int) × Int) ⊕ Unit)) (e : X) (g : Regs) (s : St) : Prop := match t with
  | (.inl t) => ∃ (A129 : Option Addr) (c130 : Nat), e = .exit 2 ∧ g = (rg 39 [(0, (Value.slice A0 (p0).length c0)), (1, (Value.int .i64 p1)), (6, (Value.slice A9 (y11).length c10)), (7, (Value.pointer (some ⟨i13, 0, none⟩))), (8, (Value.int .i64 x14)), (9, (Value.slice A129 (t.2.1).length c130)), (17, (Value.int .i64 p1)), (18, (Value.int .i64 t.2.2)), (19, (Value.bool false))]) ∧ Cx s0.next [] [] s0 s [(i13, AObj.box 3 [(Value.int .i64 t.1)])] [(On.mk (rI .i64) t.2.1 A129 c130 3), (On.mk (rL (rI .i64)) y11 A9 c10 39)] []
  | (.inr t) => e = .ret ∧ g = (rg 39 [(4, (Value.slice none 0 0)), (5, (Value.int .i64 x14))]) ∧ Cx s0.next [] [] s0 s [] [] []
theorem x16_2 (s0 : St) (p0 : (List Int)) (p1 : Int) (A0 : Option Addr) (c0 : Nat) (h0 : Sr (rI .u8) s0 A0 c0 p0) (A9 : Option Addr) (c10 : Nat) (i13 : Nat) (x14 : Int) (y11 : (List (List Int))) (t : ((Int × (List Int) × Int) ⊕ Unit)) (e : X) (g : Regs) (s : St) (h : Ex16_2 s0 p0 p1 A0 c0 h0 A9 c10 i13 x14 y11 t e g s) : e ≠ .normal := by
  rcases t with t | t
  · obtain ⟨_, _, h, _⟩ := h
    rw [h]; intro hh; cases hh
  · obtain ⟨h, _⟩ := h
    rw [h]; intro hh; cases hh
def pb16_2 (n : Nat) (p0 : (List Int)) (p1 : Int) (t : (Int × (List Int) × Int)) : Option ((Int × (List Int) × Int) ⊕ ((Int × (List Int) × Int) ⊕ Unit)) :=
  (if (decide ((t.2.2 : Int) < p1)) then (((p38 n p0 t.1).bind fun r109 => ((if ((r109.2.1 : Int) != 0) then (((((some (.inr (.inr ()))))))) else ((apP 8 t.2.1 [r109.1] (fun y121 => ((some (.inl (r109.2.2, (t.2.1 ++ [r109.1]), (IntKind.wrap .i64 (t.2.2 + 1))))))))))))) else (((some (.inr (.inl (t.1, t.2.1, t.2.2)))))))
theorem b16_2 (n : Nat) (s0 : St) (p0 : (List Int)) (p1 : Int) (A0 : Option Addr) (c0 : Nat) (h0 : Sr (rI .u8) s0 A0 c0 p0) (A9 : Option Addr) (c10 : Nat) (i13 : Nat) (x14 : Int) (y11 : (List (List Int))) (t : (Int × (List Int) × Int)) (g : Regs) (s106 : St) (K : Kont) (Q : Out → St → Prop) (h : Inv16_2 s0 p0 p1 A0 c0 h0 A9 c10 i13 x14 y11 t g s106) :
    Rf (pb16_2 n p0 p1 t) (fun r => ∀ e g' s', LK (Inv16_2 s0 p0 p1 A0 c0 h0 A9 c10 i13 x14 y11) (Ex16_2 s0 p0 p1 A0 c0 h0 A9 c10 i13 x14 y11) r e g' s' → Ev (K e g' s') Q) (fun _ => Q) (kBody E 16 n [.b, .b, .a, .b, .a, .a, .b, .a, .a, .b, .b, .a, .b, .a, .a] g s106 K) := by
  obtain ⟨x59, y65, x66⟩ := t
  obtain ⟨A63, c64, rfl, C107⟩ := h
  rw [e16_body1 n]
  unfold pb16_2
  refine Rf.gen fun H Q hH hQ => ?_
  try dsimp only
  refine Rf.ite ?_ ?_
  · refine Rf.callB 0 C107 rfl (t38 n p0 x59 s106 (C107.sr0 rfl h0) (C107.obj _ m0).1 (C107.obj _ m0).2.1) ?_
    rintro r109 _ s110 ⟨rfl, h111⟩ h114
    have C115 : Cx s0.next [] [] s0 s110 [(i13, AObj.box 3 [(Value.int .i64 r109.2.2)])] [(On.mk (rI .i64) y65 A63 c64 3), (On.mk (rL (rI .i64)) y11 A9 c10 39)] [] := h114 _ h111 [] (by simp) List.Pairwise.nil
    refine (Rf.asTup (Rf.unc (Rf.asI (Rf.unc (Rf.asI (Rf.unn ?_))))))
    refine Rf.ite ?_ ?_
    · subst hH; subst hQ
      exact Rf.leaf fun h => h _ _ _ ⟨rfl, rfl, (C115.sub (List.Sublist.cons _ List.Sublist.slnil) (List.Sublist.cons _ (List.Sublist.cons _ List.Sublist.slnil)) (List.Sublist.refl _))⟩
    · refine Rf.newR (r := (rI .i64)) (xs := [r109.1]) C115 rfl (many.cons (c := [(Value.int .i64 r109.1)]) rI_mk many.nil) fun s116 (C117 : Cx s0.next [] [] s0 s116 [(i13, AObj.box 3 [(Value.int .i64 r109.2.2)])] [(On.mk (rI .i64) [r109.1] (some ⟨s110.next, 0, none⟩) 1 3), (On.mk (rI .i64) y65 A63 c64 3), (On.mk (rL (rI .i64)) y11 A9 c10 39)] []) => ?_
      refine Rf.kapp 1 C117 rfl rfl (by decide) (by decide) (Ap.sr u39 rfl (C117.srB m0)) fun A119 c120 s123 (C124 : Cx s0.next [] [] s0 s123 [(i13, AObj.box 3 [(Value.int .i64 r109.2.2)])] [(On.mk (rI .i64) [r109.1] (some ⟨s110.next, 0, none⟩) 1 3), (On.mk (rI .i64) (y65 ++ [r109.1]) A119 c120 3), (On.mk (rL (rI .i64)) y11 A9 c10 39)] []) => ?_
      have C125 : Cx s0.next [] [] s0 s123 [(i13, AObj.box 3 [(Value.int .i64 r109.2.2)])] [(On.mk (rI .i64) (y65 ++ [r109.1]) A119 c120 3), (On.mk (rL (rI .i64)) y11 A9 c10 39)] [] := C124.sub (List.Sublist.refl _) (List.Sublist.cons _ (List.Sublist.cons_cons _ (List.Sublist.cons_cons _ List.Sublist.slnil))) (List.Sublist.refl _)
      subst hH; subst hQ
      exact Rf.leaf fun h => h _ _ _ ⟨rfl, _, _, rfl, (C125.sub (List.Sublist.refl _) (List.Sublist.refl _) (List.Sublist.refl _))⟩
  · subst hH; subst hQ
    exact Rf.leaf fun h => h _ _ _ ⟨_, _, rfl, rfl, (C107.sub (List.Sublist.refl _) (List.Sublist.refl _) (List.Sublist.refl _))⟩
abbrev Inv16_1 (s0 : St) (p0 : (List Int)) (p1 : Int) (A0 : Option Addr) (c0 : Nat) (h0 : Sr (rI .u8) s0 A0 c0 p0)  (t : ((List (List Int)) × Int)) (g : Regs) (s : St) : Prop := ∃ (A9 : Option Addr) (c10 : Nat) (i13 : Nat), g = (rg 39 [(0, (Value.slice A0 (p0).length c0)), (1, (Value.int .i64 p1)), (6, (Value.slice A9 (t.1).length c10)), (7, (Value.pointer (some ⟨i13, 0, none⟩)))]) ∧ Cx s0.next [] [] s0 s [(i13, AObj.box 3 [(Value.int .i64 t.2)])] [(On.mk (rL (rI .i64)) t.1 A9 c10 39)] []
abbrev Ex16_1 (s0 : St) (p0 : (List Int)) (p1 : Int) (A0 : Option Addr) (c0 : Nat) (h0 : Sr (rI .u8) s0 A0 c0 p0)  (t : (((List (List Int)) × Int) ⊕ Int)) (e : X) (g : Regs) (s : St) : Prop := match t with
  | (.inl t) => ∃ (A236 : Option Addr) (c237 : Nat) (i240 : Nat), e = .exit 0 ∧ g = (rg 39 [(0, (Value.slice A0 (p0).length c0)), (1, (Value.int .i64 p1)), (6, (Value.slice A236 (t.1).length c237)), (7, (Value.pointer (some ⟨i240, 0, none⟩))), (15, (Value.bool false))]) ∧ Cx s0.next [] [] s0 s [(i240, AObj.box 3 [(Value.int .i64 t.2)])] [(On.mk (rL (rI .i64)) t.1 A236 c237 39)] []
  | (.inr t) => e = .ret ∧ g = (rg 39 [(4, (Value.slice none 0 0)), (5, (Value.int .i64 t))]) ∧ Cx s0.next [] [] s0 s [] [] []
theorem x16_1 (s0 : St) (p0 : (List Int)) (p1 : Int) (A0 : Option Addr) (c0 : Nat) (h0 : Sr (rI .u8) s0 A0 c0 p0)  (t : (((List (List Int)) × Int) ⊕ Int)) (e : X) (g : Regs) (s : St) (h : Ex16_1 s0 p0 p1 A0 c0 h0  t e g s) : e ≠ .normal := by
  rcases t with t | t
  · obtain ⟨_, _, _, h, _⟩ := h
    rw [h]; intro hh; cases hh
  · obtain ⟨h, _⟩ := h
    rw [h]; intro hh; cases hh
def pb16_1 (n : Nat) (p0 : (List Int)) (p1 : Int) (t : ((List (List Int)) × Int)) : Option (((List (List Int)) × Int) ⊕ (((List (List Int)) × Int) ⊕ Int)) :=
  (if (decide ((t.2 : Int) < ((p0).length : Nat))) then ((((((loopP (pb16_2 n p0 p1) n (t.2, ([] : List Int), 0)).bind fun t234 => match t234 with | (.inl t133) => (apP 24 t.1 [t133.2.1] (fun y180 => ((some (.inl ((t.1 ++ [t133.2.1]), t133.1)))))) | (.inr t192) => ((some (.inr (.inr t.2))))))))) else (((some (.inr (.inl (t.1, t.2)))))))
theorem b16_1 (n : Nat) (s0 : St) (p0 : (List Int)) (p1 : Int) (A0 : Option Addr) (c0 : Nat) (h0 : Sr (rI .u8) s0 A0 c0 p0)  (t : ((List (List Int)) × Int)) (g : Regs) (s54 : St) (K : Kont) (Q : Out → St → Prop) (h : Inv16_1 s0 p0 p1 A0 c0 h0  t g s54) :
    Rf (pb16_1 n p0 p1 t) (fun r => ∀ e g' s', LK (Inv16_1 s0 p0 p1 A0 c0 h0 ) (Ex16_1 s0 p0 p1 A0 c0 h0 ) r e g' s' → Ev (K e g' s') Q) (fun _ => Q) (kBody E 16 n [.b, .b, .a, .b, .a, .a] g s54 K) := by
  obtain ⟨y11, x14⟩ := t
  obtain ⟨A9, c10, i13, rfl, C55⟩ := h
  rw [e16_body0 n]
  unfold pb16_1
  refine Rf.gen fun H Q hH hQ => ?_
  try dsimp only
  refine Rf.ldI (C55.at m0 rfl) ?_
  refine Rf.ite ?_ ?_
  · refine Rf.ldI (C55.at m0 rfl) ?_
    have C61 : Cx s0.next [] [] s0 s54 [(i13, AObj.box 3 [(Value.int .i64 x14)])] [(On.mk (rI .i64) ([] : List Int) none 0 3), (On.mk (rL (rI .i64)) y11 A9 c10 39)] [] := C55.addNil (rI .i64) 3
    refine Rf.loop (Inv := Inv16_2 s0 p0 p1 A0 c0 h0 A9 c10 i13 x14 y11) (Ex := Ex16_2 s0 p0 p1 A0 c0 h0 A9 c10 i13 x14 y11) (x16_2 s0 p0 p1 A0 c0 h0 A9 c10 i13 x14 y11) (fun t g s K Q h => b16_2 n s0 p0 p1 A0 c0 h0 A9 c10 i13 x14 y11 t g s K Q h) n _ _ _ ⟨_, _, rfl, (C61.sub (List.Sublist.refl _) (List.Sublist.refl _) (List.Sublist.refl _))⟩ ?_
    intro t e g s h
    rcases t with t133 | t192
    · generalize s = s173 at h ⊢
      obtain ⟨A129, c130, rfl, rfl, C174⟩ := h
      rw [e16_after1_exit2 n]
      refine Rf.ifp rfl ?_
      refine Rf.ifp rfl ?_
      refine Rf.newR (r := (rL (rI .i64))) (xs := [t133.2.1]) C174 rfl (many.cons (c := [(Value.slice A129 (t133.2.1).length c130)]) (rL_mk (C174.srB m0)) many.nil) fun s175 (C176 : Cx s0.next [] [] s0 s175 [(i13, AObj.box 3 [(Value.int .i64 t133.1)])] [(On.mk (rL (rI .i64)) [t133.2.1] (some ⟨s173.next, 0, none⟩) 1 39), (On.mk (rI .i64) t133.2.1 A129 c130 3), (On.mk (rL (rI .i64)) y11 A9 c10 39)] []) => ?_
      refine Rf.kapp 2 C176 rfl rfl (by decide) (by decide) (Ap.sr u43 rfl (C176.srB m0)) fun A178 c179 s182 (C183 : Cx s0.next [] [] s0 s182 [(i13, AObj.box 3 [(Value.int .i64 t133.1)])] [(On.mk (rL (rI .i64)) [t133.2.1] (some ⟨s173.next, 0, none⟩) 1 39), (On.mk (rI .i64) t133.2.1 A129 c130 3), (On.mk (rL (rI .i64)) (y11 ++ [t133.2.1]) A178 c179 39)] []) => ?_
      have C184 : Cx s0.next [] [] s0 s182 [(i13, AObj.box 3 [(Value.int .i64 t133.1)])] [(On.mk (rI .i64) t133.2.1 A129 c130 3), (On.mk (rL (rI .i64)) (y11 ++ [t133.2.1]) A178 c179 39)] [] := C183.sub (List.Sublist.refl _) (List.Sublist.cons _ (List.Sublist.cons_cons _ (List.Sublist.cons_cons _ List.Sublist.slnil))) (List.Sublist.refl _)
      refine Rf.ldI (C184.at m0 rfl) ?_
      refine Rf.new C184 fun s187 (C188 : Cx s0.next [] [] s0 s187 [(s182.next, AObj.box 3 [(Value.int .i64 0)]), (i13, AObj.box 3 [(Value.int .i64 t133.1)])] [(On.mk (rI .i64) t133.2.1 A129 c130 3), (On.mk (rL (rI .i64)) (y11 ++ [t133.2.1]) A178 c179 39)] []) => ?_
      refine Rf.sto 0 C188 rfl (by simp) rfl fun s190 (C191 : Cx s0.next [] [] s0 s190 [(s182.next, AObj.box 3 [(Value.int .i64 t133.1)]), (i13, AObj.box 3 [(Value.int .i64 t133.1)])] [(On.mk (rI .i64) t133.2.1 A129 c130 3), (On.mk (rL (rI .i64)) (y11 ++ [t133.2.1]) A178 c179 39)] []) => ?_
      subst hH; subst hQ
      exact Rf.leaf fun h => h _ _ _ ⟨rfl, _, _, _, rfl, (C191.sub (List.Sublist.cons_cons _ (List.Sublist.cons _ List.Sublist.slnil)) (List.Sublist.cons _ (List.Sublist.cons_cons _ List.Sublist.slnil)) (List.Sublist.refl _))⟩
    · generalize s = s232 at h ⊢
      obtain ⟨rfl, rfl, C233⟩ := h
      rw [e16_after1_ret n]
      subst hH; subst hQ
      exact Rf.leaf fun h => h _ _ _ ⟨rfl, rfl, (C233.sub (List.Sublist.refl _) (List.Sublist.refl _) (List.Sublist.refl _))⟩
  · subst hH; subst hQ
    exact Rf.leaf fun h => h _ _ _ ⟨_, _, _, rfl, rfl, (C55.sub (List.Sublist.refl _) (List.Sublist.refl _) (List.Sublist.refl _))⟩
abbrev P16 (N : Nat) (X : List Nat) (r : ((List (List Int)) × Int)) (v : Value) (s : St) : Prop := ∃ (A0 : Option Addr) (c0 : Nat), v = (Value.tuple #[(Value.slice A0 (r.1).length c0), (Value.int .i64 r.2)]) ∧ (On.mk (rL (rI .i64)) r.1 A0 c0 39).holds N X s
def p16 : Nat → (List Int) → Int → Option ((List (List Int)) × Int)
  | 0, _, _ => none
  | n + 1, p0, p1 => ((((loopP (pb16_1 n p0 p1) n (([] : List (List Int)), 0)).bind fun t327 => match t327 with | (.inl t243) => ((some (t243.1, (-1)))) | (.inr t285) => (some (([] : (List (List Int))), t285)))))
theorem t16 (k : Nat) (p0 : (List Int)) (p1 : Int) (s0 : St) {A0 : Option Addr} {c0 : Nat} (h0 : Sr (rI .u8) s0 A0 c0 p0) :
    Rf (p16 k p0 p1) (fun _ => True) (fun r => RtC s0.next [] [] s0 (P16 s0.next [] r)) (acall E k 16 [(Value.slice A0 (p0).length c0), (Value.int .i64 p1)] s0) := by
  cases k with
  | zero => exact Rf.none
  | succ n =>
    rw [e16 n]
    rw [p16]
    refine Rf.gen fun H Q hH hQ => ?_
    have C0 : Cx s0.next [] [] s0 s0 [] [] [] := Cx.start s0
    refine Rf.new C0 fun s1 (C2 : Cx s0.next [] [] s0 s1 [(s0.next, AObj.box 3 [(Value.int .i64 0)])] [] []) => ?_
    refine Rf.sto 0 C2 rfl (by simp) rfl fun s4 (C5 : Cx s0.next [] [] s0 s4 [(s0.next, AObj.box 3 [(Value.int .i64 0)])] [] []) => ?_
    have C7 : Cx s0.next [] [] s0 s4 [(s0.next, AObj.box 3 [(Value.int .i64 0)])] [(On.mk (rL (rI .i64)) ([] : List (List Int)) none 0 39)] [] := C5.addNil (rL (rI .i64)) 39
    refine Rf.loop (Inv := Inv16_1 s0 p0 p1 A0 c0 h0 ) (Ex := Ex16_1 s0 p0 p1 A0 c0 h0 ) (x16_1 s0 p0 p1 A0 c0 h0 ) (fun t g s K Q h => b16_1 n s0 p0 p1 A0 c0 h0  t g s K Q h) n _ _ _ ⟨_, _, _, rfl, (C7.sub (List.Sublist.refl _) (List.Sublist.refl _) (List.Sublist.refl _))⟩ ?_
    intro t e g s h
    rcases t with t243 | t285
    · generalize s = s283 at h ⊢
      obtain ⟨A236, c237, i240, rfl, rfl, C284⟩ := h
      rw [e16_after0_exit0 n]
      subst hH; subst hQ
      exact Rf.leaf fun _ => Ev.done (Rf.ret C284 ⟨_, _, rfl, C284.own _ m0⟩)
    · generalize s = s325 at h ⊢
      obtain ⟨rfl, rfl, C326⟩ := h
      rw [e16_after0_ret n]
      subst hH; subst hQ
      exact Rf.leaf fun _ => Ev.done (Rf.ret C326 ⟨_, _, rfl, .inl ⟨rfl, rfl, rfl⟩⟩)
-- 17 "brindlewood/brindlewoodref7.Opened"
abbrev P17 (N : Nat) (X : List Nat) (r : Int) (v : Value) (s : St) : Prop := v = (Value.int .i64 r)
def p17 : Nat → Int → Option Int
  | 0, _ => none
  | n + 1, p0 => (remP .i64 p0 2 (fun x1 => (if ((x1 : Int) == 1) then (divP .i64 (IntKind.wrap .i64 (0 - (IntKind.wrap .i64 (p0 + 1)))) 2 (fun x2 => ((some x2)))) else ((divP .i64 p0 2 (fun x3 => (some x3)))))))
theorem t17 (k : Nat) (p0 : Int) (s0 : St) :
    Rf (p17 k p0) (fun _ => True) (fun r => RtC s0.next [] [] s0 (P17 s0.next [] r)) (acall E k 17 [(Value.int .i64 p0)] s0) := by
  cases k with
  | zero => exact Rf.none
  | succ n =>
    rw [e17 n]
    rw [p17]
    refine Rf.gen fun H Q hH hQ => ?_
    have C0 : Cx s0.next [] [] s0 s0 [] [] [] := Cx.start s0
    refine Rf.remI fun x1 => ?_
    refine Rf.ite ?_ ?_
    · refine Rf.divI fun x2 => ?_
      subst hH; subst hQ
      exact Rf.leaf fun _ => Ev.done (Rf.ret C0 rfl)
    · refine Rf.divI fun x3 => ?_
      subst hH; subst hQ
      exact Rf.leaf fun _ => Ev.done (Rf.ret C0 rfl)
-- 39 "brindlewood/tables.checkCatches"
abbrev Inv39_1 (s0 : St) (p0 : (List (Int × Int × Int × Int))) (A0 : Option Addr) (c0 : Nat) (h0 : Sr (rP (rI .i64) (rP (rI .i64) (rP (rI .i64) (rI .i64)))) s0 A0 c0 p0) (i15 : Nat) (t : Int) (g : Regs) (s : St) : Prop := g = (rg 55 [(2, (Value.pointer (some ⟨i15, 0, none⟩))), (9, (Value.slice A0 (p0).length c0)), (10, (Value.int .i64 ((p0).length : Nat))), (11, (Value.int .i64 t))]) ∧ Cx s0.next [] [] s0 s [(i15, AObj.box 24 [(Value.int .i64 0), (Value.int .i64 0)])] [] []
abbrev Ex39_1 (s0 : St) (p0 : (List (Int × Int × Int × Int))) (A0 : Option Addr) (c0 : Nat) (h0 : Sr (rP (rI .i64) (rP (rI .i64) (rP (rI .i64) (rI .i64)))) s0 A0 c0 p0) (i15 : Nat) (t : (Int ⊕ (Int × Int))) (e : X) (g : Regs) (s : St) : Prop := match t with
  | (.inl t) => e = .exit 0 ∧ g = (rg 55 [(2, (Value.pointer (some ⟨i15, 0, none⟩))), (9, (Value.slice A0 (p0).length c0)), (10, (Value.int .i64 ((p0).length : Nat))), (11, (Value.int .i64 t)), (12, (Value.bool false))]) ∧ Cx s0.next [] [] s0 s [(i15, AObj.box 24 [(Value.int .i64 0), (Value.int .i64 0)])] [] []
  | (.inr t) => e = .ret ∧ g = (rg 55 [(2, (Value.pointer (some ⟨i15, 0, none⟩)))]) ∧ Cx s0.next [] [] s0 s [(i15, AObj.box 24 [(Value.int .i64 t.1), (Value.int .i64 t.2)])] [] []
theorem x39_1 (s0 : St) (p0 : (List (Int × Int × Int × Int))) (A0 : Option Addr) (c0 : Nat) (h0 : Sr (rP (rI .i64) (rP (rI .i64) (rP (rI .i64) (rI .i64)))) s0 A0 c0 p0) (i15 : Nat) (t : (Int ⊕ (Int × Int))) (e : X) (g : Regs) (s : St) (h : Ex39_1 s0 p0 A0 c0 h0 i15 t e g s) : e ≠ .normal := by
  rcases t with t | t
  · obtain ⟨h, _⟩ := h
    rw [h]; intro hh; cases hh
  · obtain ⟨h, _⟩ := h
    rw [h]; intro hh; cases hh
def pb39_1 (n : Nat) (p0 : (List (Int × Int × Int × Int))) (t : Int) : Option (Int ⊕ (Int ⊕ (Int × Int))) :=
  (if (decide ((t : Int) < ((p0).length : Nat))) then ((rd p0 t (fun x74 => (pj (fun (b130 : Bool) => if b130 then ((p28 n 4 t).bind fun r133 => (((some (.inr (.inr (r133.1, r133.2))))))) else (((some (.inl (IntKind.wrap .i64 (t + 1))))))) (fun J129 => if (decide ((x74.1 : Int) < 0)) then ((J129 true)) else (if (decide ((x74.1 : Int) ≥ x74.2.1)) then ((J129 true)) else (if (decide ((x74.2.1 : Int) > 60000)) then ((J129 true)) else (if (decide ((x74.2.2.1 : Int) < 0)) then ((J129 true)) else (if (decide ((x74.2.2.1 : Int) ≥ 60000)) then ((J129 true)) else (if (decide ((x74.2.2.2 : Int) < 0)) then ((J129 true)) else ((J129 (decide ((x74.2.2.2 : Int) > 5000)))))))))))))) else (((some (.inr (.inl t))))))
theorem b39_1 (n : Nat) (s0 : St) (p0 : (List (Int × Int × Int × Int))) (A0 : Option Addr) (c0 : Nat) (h0 : Sr (rP (rI .i64) (rP (rI .i64) (rP (rI .i64) (rI .i64)))) s0 A0 c0 p0) (i15 : Nat) (x14 : Int) (g : Regs) (s71 : St) (K : Kont) (Q : Out → St → Prop) (h : Inv39_1 s0 p0 A0 c0 h0 i15 x14 g s71) :
    Rf (pb39_1 n p0 x14) (fun r => ∀ e g' s', LK (Inv39_1 s0 p0 A0 c0 h0 i15) (Ex39_1 s0 p0 A0 c0 h0 i15) r e g' s' → Ev (K e g' s') Q) (fun _ => Q) (kBody E 39 n [.b, .b, .a, .b, .a, .a] g s71 K) := by
  obtain ⟨rfl, C72⟩ := h
  rw [e39_body0 n]
  unfold pb39_1
  refine Rf.gen fun H Q hH hQ => ?_
  refine Rf.ite ?_ ?_
  · refine Rf.elt (r := (rP (rI .i64) (rP (rI .i64) (rP (rI .i64) (rI .i64))))) (C72.sr0 rfl h0) rfl fun x74 i75 o76 c77 r78 h79 => ?_
    obtain ⟨c84, c85, rfl, r86, r87⟩ := rP_elim r78
    obtain rfl := rI_elim r86
    obtain ⟨c88, c89, rfl, r90, r91⟩ := rP_elim r87
    obtain rfl := rI_elim r90
    obtain ⟨c92, c93, rfl, r94, r95⟩ := rP_elim r91
    obtain rfl := rI_elim r94
    obtain rfl := rI_elim r95
    refine Rf.ldI (h79.at 0 rfl) ?_
    refine Rf.ldI (h79.at 1 rfl) ?_
    refine Rf.ldI (h79.at 2 rfl) ?_
    refine Rf.ldI (h79.at 3 rfl) ?_
    refine Rf.new C72 fun s100 (C101 : Cx s0.next [] [] s0 s100 [(s71.next, AObj.box 51 [(Value.int .i64 0), (Value.int .i64 0), (Value.int .i64 0), (Value.int .i64 0)]), (i15, AObj.box 24 [(Value.int .i64 0), (Value.int .i64 0)])] [] []) => ?_
    refine Rf.sto 0 C101 rfl (by simp) rfl fun s103 (C104 : Cx s0.next [] [] s0 s103 [(s71.next, AObj.box 51 [(Value.int .i64 x74.1), (Value.int .i64 x74.2.1), (Value.int .i64 x74.2.2.1), (Value.int .i64 x74.2.2.2)]), (i15, AObj.box 24 [(Value.int .i64 0), (Value.int .i64 0)])] [] []) => ?_
    refine Rf.pj fun J129 J129' hJ129 hJ129' => ?_
    have J129h : ∀ (b130 : Bool) (_ : Cx s0.next [] [] s0 s103 [(i15, AObj.box 24 [(Value.int .i64 0), (Value.int .i64 0)])] [] []), Rf (J129 b130) H Q (J129' b130) := by
      subst hJ129
      subst hJ129'
      intro b130 C132
      refine Rf.ite ?_ ?_
      · refine Rf.call0 C132 (t28 n 4 x14 s103) ?_
        rintro r133 _ s134 rfl h137
        have C138 : Cx s0.next [] [] s0 s134 [(i15, AObj.box 24 [(Value.int .i64 0), (Value.int .i64 0)])] [] [] := h137 [] (by simp) List.Pairwise.nil
        refine (Rf.asAgg (Rf.unc (Rf.asI (Rf.unc (Rf.asI (Rf.unn ?_))))))
        refine Rf.sto 0 C138 rfl (by simp) rfl fun s139 (C140 : Cx s0.next [] [] s0 s139 [(i15, AObj.box 24 [(Value.int .i64 r133.1), (Value.int .i64 r133.2)])] [] []) => ?_
        subst hH; subst hQ
        exact Rf.leaf fun h => h _ _ _ ⟨rfl, rfl, (C140.sub (List.Sublist.refl _) (List.Sublist.refl _) (List.Sublist.refl _))⟩
      · subst hH; subst hQ
        exact Rf.leaf fun h => h _ _ _ ⟨rfl, rfl, (C132.sub (List.Sublist.refl _) (List.Sublist.refl _) (List.Sublist.refl _))⟩
    clear hJ129 hJ129'
    refine Rf.ldI (C104.at m0 rfl) ?_
    refine Rf.ite ?_ ?_
    · exact J129h true (C104.sub (List.Sublist.cons _ (List.Sublist.cons_cons _ List.Sublist.slnil)) (List.Sublist.refl _) (List.Sublist.refl _))
    · refine Rf.ldI (C104.at m0 rfl) ?_
      refine Rf.ldI (C104.at m0 rfl) ?_
      refine Rf.ite ?_ ?_
      · exact J129h true (C104.sub (List.Sublist.cons _ (List.Sublist.cons_cons _ List.Sublist.slnil)) (List.Sublist.refl _) (List.Sublist.refl _))
      · refine Rf.ldI (C104.at m0 rfl) ?_
        refine Rf.ite ?_ ?_
        · exact J129h true (C104.sub (List.Sublist.cons _ (List.Sublist.cons_cons _ List.Sublist.slnil)) (List.Sublist.refl _) (List.Sublist.refl _))
        · refine Rf.ldI (C104.at m0 rfl) ?_
          refine Rf.ite ?_ ?_
          · exact J129h true (C104.sub (List.Sublist.cons _ (List.Sublist.cons_cons _ List.Sublist.slnil)) (List.Sublist.refl _) (List.Sublist.refl _))
          · refine Rf.ldI (C104.at m0 rfl) ?_
            refine Rf.ite ?_ ?_
            · exact J129h true (C104.sub (List.Sublist.cons _ (List.Sublist.cons_cons _ List.Sublist.slnil)) (List.Sublist.refl _) (List.Sublist.refl _))
            · refine Rf.ldI (C104.at m0 rfl) ?_
              refine Rf.ite ?_ ?_
              · exact J129h true (C104.sub (List.Sublist.cons _ (List.Sublist.cons_cons _ List.Sublist.slnil)) (List.Sublist.refl _) (List.Sublist.refl _))
              · refine Rf.ldI (C104.at m0 rfl) ?_
                exact J129h (decide ((x74.2.2.2 : Int) > 5000)) (C104.sub (List.Sublist.cons _ (List.Sublist.cons_cons _ List.Sublist.slnil)) (List.Sublist.refl _) (List.Sublist.refl _))
  · subst hH; subst hQ
    exact Rf.leaf fun h => h _ _ _ ⟨rfl, rfl, (C72.sub (List.Sublist.refl _) (List.Sublist.refl _) (List.Sublist.refl _))⟩
abbrev P39 (N : Nat) (X : List Nat) (r : (Int × Int)) (v : Value) (s : St) : Prop := v = (Value.agg #[(Value.int .i64 r.1), (Value.int .i64 r.2)])
def p39 : Nat → (List (Int × Int × Int × Int)) → Option (Int × Int)
  | 0, _ => none
  | n + 1, p0 => ((if (decide ((((p0).length : Nat) : Int) > 60000)) then ((p28 n 2 (-1)).bind fun r4 => ((some (r4.1, r4.2)))) else ((((loopP (pb39_1 n p0) n 0).bind fun t266 => match t266 with | (.inl t144) => ((some (0, 0))) | (.inr t206) => (some (t206.1, t206.2)))))))
theorem t39 (k : Nat) (p0 : (List (Int × Int × Int × Int))) (s0 : St) {A0 : Option Addr} {c0 : Nat} (h0 : Sr (rP (rI .i64) (rP (rI .i64) (rP (rI .i64) (rI .i64)))) s0 A0 c0 p0) :
    Rf (p39 k p0) (fun _ => True) (fun r => RtC s0.next [] [] s0 (P39 s0.next [] r)) (acall E k 39 [(Value.slice A0 (p0).length c0)] s0) := by
  cases k with
  | zero => exact Rf.none
  | succ n =>
    rw [e39 n]
    rw [p39]
    refine Rf.gen fun H Q hH hQ => ?_
    have C0 : Cx s0.next [] [] s0 s0 [] [] [] := Cx.start s0
    refine Rf.new C0 fun s1 (C2 : Cx s0.next [] [] s0 s1 [(s0.next, AObj.box 24 [(Value.int .i64 0), (Value.int .i64 0)])] [] []) => ?_
    refine Rf.ite ?_ ?_
    · refine Rf.call0 C2 (t28 n 2 (-1) s1) ?_
      rintro r4 _ s5 rfl h8
      have C9 : Cx s0.next [] [] s0 s5 [(s0.next, AObj.box 24 [(Value.int .i64 0), (Value.int .i64 0)])] [] [] := h8 [] (by simp) List.Pairwise.nil
      refine (Rf.asAgg (Rf.unc (Rf.asI (Rf.unc (Rf.asI (Rf.unn ?_))))))
      refine Rf.sto 0 C9 rfl (by simp) rfl fun s10 (C11 : Cx s0.next [] [] s0 s10 [(s0.next, AObj.box 24 [(Value.int .i64 r4.1), (Value.int .i64 r4.2)])] [] []) => ?_
      refine Rf.ldI (C11.at m0 rfl) ?_
      refine Rf.ldI (C11.at m0 rfl) ?_
      subst hH; subst hQ
      exact Rf.leaf fun _ => Ev.done (Rf.ret C11 rfl)
    · refine Rf.loop (Inv := Inv39_1 s0 p0 A0 c0 h0 s0.next) (Ex := Ex39_1 s0 p0 A0 c0 h0 s0.next) (x39_1 s0 p0 A0 c0 h0 s0.next) (fun t g s K Q h => b39_1 n s0 p0 A0 c0 h0 s0.next t g s K Q h) n _ _ _ ⟨rfl, (C2.sub (List.Sublist.refl _) (List.Sublist.refl _) (List.Sublist.refl _))⟩ ?_
      intro t e g s h
      rcases t with t144 | t206
      · generalize s = s200 at h ⊢
        obtain ⟨rfl, rfl, C201⟩ := h
        rw [e39_after0_exit0 n]
        refine Rf.sto 0 C201 rfl (by simp) rfl fun s202 (C203 : Cx s0.next [] [] s0 s202 [(s0.next, AObj.box 24 [(Value.int .i64 0), (Value.int .i64 0)])] [] []) => ?_
        refine Rf.ldI (C203.at m0 rfl) ?_
        refine Rf.ldI (C203.at m0 rfl) ?_
        subst hH; subst hQ
        exact Rf.leaf fun _ => Ev.done (Rf.ret C203 rfl)
      · generalize s = s262 at h ⊢
        obtain ⟨rfl, rfl, C263⟩ := h
        rw [e39_after0_ret n]
        refine Rf.ldI (C263.at m0 rfl) ?_
        refine Rf.ldI (C263.at m0 rfl) ?_
        subst hH; subst hQ
        exact Rf.leaf fun _ => Ev.done (Rf.ret C263 rfl)
-- 18 "brindlewood/tables.UnpackCatches"
abbrev Inv18_2 (s0 : St) (p0 : (List Int)) (A0 : Option Addr) (c0 : Nat) (h0 : Sr (rI .u8) s0 A0 c0 p0) (A17 : Option Addr) (c18 : Nat) (i21 : Nat) (i22 : Nat) (x13 : Int) (x20 : Int) (y19 : (List (Int × Int × Int × Int))) (i118 : Nat) (t : ((List Int) × Int × (List Int) × Int)) (g : Regs) (s : St) : Prop := ∃ (A112 : Option Addr) (c113 : Nat), g = (rg 76 [(0, (Value.slice A0 (p0).length c0)), (3, (Value.pointer (some ⟨i22, 0, none⟩))), (4, (Value.pointer (some ⟨i21, 0, none⟩))), (5, (Value.slice A17 (y19).length c18)), (6, (Value.int .i64 x20)), (7, (Value.int .i64 x13)), (8, (Value.pointer (some ⟨i118, 0, none⟩))), (28, (Value.int .i64 t.2.2.2))]) ∧ Cx s0.next [] [] s0 s [(i118, AObj.box 76 (List.map (Value.int .i64) t.2.2.1)), (i21, AObj.box 71 [(Value.slice A112 (t.1).length c113), (Value.int .i64 t.2.1)]), (i22, AObj.box 24 [(Value.int .i64 0), (Value.int .i64 0)])] [(On.mk (rP (rI .i64) (rP (rI .i64) (rP (rI .i64) (rI .i64)))) y19 A17 c18 51)] [(Fa.sr (rI .u8) A112 c113 t.1)]
abbrev Ex18_2 (s0 : St) (p0 : (List Int)) (A0 : Option Addr) (c0 : Nat) (h0 : Sr (rI .u8) s0 A0 c0 p0) (A17 : Option Addr) (c18 : Nat) (i21 : Nat) (i22 : Nat) (x13 : Int) (x20 : Int) (y19 : (List (Int × Int × Int × Int))) (i118 : Nat) (t : (((List Int) × Int × (List Int) × Int) ⊕ (Int × Int))) (e : X) (g : Regs) (s : St) : Prop := match t with
  | (.inl t) => ∃ (A226 : Option Addr) (c227 : Nat), e = .exit 2 ∧ g = (rg 76 [(0, (Value.slice A0 (p0).length c0)), (3, (Value.pointer (some ⟨i22, 0, none⟩))), (4, (Value.pointer (some ⟨i21, 0, none⟩))), (5, (Value.slice A17 (y19).length c18)), (6, (Value.int .i64 x20)), (7, (Value.int .i64 x13)), (8, (Value.pointer (some ⟨i118, 0, none⟩))), (28, (Value.int .i64 t.2.2.2)), (29, (Value.bool false))]) ∧ Cx s0.next [] [] s0 s [(i118, AObj.box 76 (List.map (Value.int .i64) t.2.2.1)), (i21, AObj.box 71 [(Value.slice A226 (t.1).length c227), (Value.int .i64 t.2.1)]), (i22, AObj.box 24 [(Value.int .i64 0), (Value.int .i64 0)])] [(On.mk (rP (rI .i64) (rP (rI .i64) (rP (rI .i64) (rI .i64)))) y19 A17 c18 51)] [(Fa.sr (rI .u8) A226 c227 t.1)]
  | (.inr t) => e = .ret ∧ g = (rg 76 [(2, (Value.slice none 0 0)), (3, (Value.pointer (some ⟨i22, 0, none⟩)))]) ∧ Cx s0.next [] [] s0 s [(i22, AObj.box 24 [(Value.int .i64 t.1), (Value.int .i64 t.2)])] [] []
theorem x18_2 (s0 : St) (p0 : (List Int)) (A0 : Option Addr) (c0 : Nat) (h0 : Sr (rI .u8) s0 A0 c0 p0) (A17 : Option Addr) (c18 : Nat) (i21 : Nat) (i22 : Nat) (x13 : Int) (x20 : Int) (y19 : (List (Int × Int × Int × Int))) (i118 : Nat) (t : (((List Int) × Int × (List Int) × Int) ⊕ (Int × Int))) (e : X) (g : Regs) (s : St) (h : Ex18_2 s0 p0 A0 c0 h0 A17 c18 i21 i22 x13 x20 y19 i118 t e g s) : e ≠ .normal := by
  rcases t with t | t
  · obtain ⟨_, _, h, _⟩ := h
    rw [h]; intro hh; cases hh
  · obtain ⟨h, _⟩ := h
    rw [h]; intro hh; cases hh
def pb18_2 (n : Nat)  (x13 : Int) (t : ((List Int) × Int × (List Int) × Int)) : Option (((List Int) × Int × (List Int) × Int) ⊕ (((List Int) × Int × (List Int) × Int) ⊕ (Int × Int))) :=
  (if (decide ((t.2.2.2 : Int) < 4)) then ((((p36 n (t.1, t.2.1)).bind fun r198 => ((if (!r198.2.1) then ((p28 n 16 x13).bind fun r210 => ((((some (.inr (.inr (r210.1, r210.2)))))))) else ((inb 4 t.2.2.2 (stP t.2.2.1 t.2.2.2 r198.1 (fun l224 => ((some (.inl (r198.2.2.1, r198.2.2.2, l224, (IntKind.wrap .i64 (t.2.2.2 + 1))))))))))))))) else (((some (.inr (.inl (t.1, t.2.1, t.2.2.1, t.2.2.2)))))))
theorem b18_2 (n : Nat) (s0 : St) (p0 : (List Int)) (A0 : Option Addr) (c0 : Nat) (h0 : Sr (rI .u8) s0 A0 c0 p0) (A17 : Option Addr) (c18 : Nat) (i21 : Nat) (i22 : Nat) (x13 : Int) (x20 : Int) (y19 : (List (Int × Int × Int × Int))) (i118 : Nat) (t : ((List Int) × Int × (List Int) × Int)) (g : Regs) (s195 : St) (K : Kont) (Q : Out → St → Prop) (h : Inv18_2 s0 p0 A0 c0 h0 A17 c18 i21 i22 x13 x20 y19 i118 t g s195) :
    Rf (pb18_2 n x13 t) (fun r => ∀ e g' s', LK (Inv18_2 s0 p0 A0 c0 h0 A17 c18 i21 i22 x13 x20 y19 i118) (Ex18_2 s0 p0 A0 c0 h0 A17 c18 i21 i22 x13 x20 y19 i118) r e g' s' → Ev (K e g' s') Q) (fun _ => Q) (kBody E 18 n [.b, .b, .b, .b, .a, .a, .a, .b, .a, .b, .b, .a, .b, .a, .a] g s195 K) := by
  obtain ⟨y114, x115, l116, x117⟩ := t
  obtain ⟨A112, c113, rfl, C196⟩ := h
  rw [e18_body1 n]
  unfold pb18_2
  refine Rf.gen fun H Q hH hQ => ?_
  try dsimp only
  refine Rf.ite ?_ ?_
  · refine Rf.callB 1 C196 rfl (t36 n (y114, x115) s195 (C196.obj _ m1).1 (C196.obj _ m1).2.1 (C196.srG m0)) ?_
    rintro r198 _ s199 ⟨A200, c201, rfl, h202, h204⟩ h207
    have C208 : Cx s0.next [] [] s0 s199 [(i118, AObj.box 76 (List.map (Value.int .i64) l116)), (i21, AObj.box 71 [(Value.slice A200 (r198.2.2.1).length c201), (Value.int .i64 r198.2.2.2)]), (i22, AObj.box 24 [(Value.int .i64 0), (Value.int .i64 0)])] [(On.mk (rP (rI .i64) (rP (rI .i64) (rP (rI .i64) (rI .i64)))) y19 A17 c18 51)] [(Fa.sr (rI .u8) A112 c113 y114)] := h207 _ h204 [] (by simp) List.Pairwise.nil
    have C209 := C208.add (Fa.sr (rI .u8) A200 c201 r198.2.2.1) h202
    refine (Rf.asTup (Rf.unc (Rf.asI (Rf.unc (Rf.asB (Rf.unn ?_))))))
    refine Rf.ite ?_ ?_
    · refine Rf.call0 C209 (t28 n 16 x13 s199) ?_
      rintro r210 _ s211 rfl h214
      have C215 : Cx s0.next [] [] s0 s211 [(i118, AObj.box 76 (List.map (Value.int .i64) l116)), (i21, AObj.box 71 [(Value.slice A200 (r198.2.2.1).length c201), (Value.int .i64 r198.2.2.2)]), (i22, AObj.box 24 [(Value.int .i64 0), (Value.int .i64 0)])] [(On.mk (rP (rI .i64) (rP (rI .i64) (rP (rI .i64) (rI .i64)))) y19 A17 c18 51)] [(Fa.sr (rI .u8) A200 c201 r198.2.2.1), (Fa.sr (rI .u8) A112 c113 y114)] := h214 [] (by simp) List.Pairwise.nil
      refine (Rf.asAgg (Rf.unc (Rf.asI (Rf.unc (Rf.asI (Rf.unn ?_))))))
      refine Rf.sto 2 C215 rfl (by simp) rfl fun s216 (C217 : Cx s0.next [] [] s0 s216 [(i118, AObj.box 76 (List.map (Value.int .i64) l116)), (i21, AObj.box 71 [(Value.slice A200 (r198.2.2.1).length c201), (Value.int .i64 r198.2.2.2)]), (i22, AObj.box 24 [(Value.int .i64 r210.1), (Value.int .i64 r210.2)])] [(On.mk (rP (rI .i64) (rP (rI .i64) (rP (rI .i64) (rI .i64)))) y19 A17 c18 51)] [(Fa.sr (rI .u8) A200 c201 r198.2.2.1), (Fa.sr (rI .u8) A112 c113 y114)]) => ?_
      subst hH; subst hQ
      exact Rf.leaf fun h => h _ _ _ ⟨rfl, rfl, (C217.sub (List.Sublist.cons _ (List.Sublist.cons _ (List.Sublist.cons_cons _ List.Sublist.slnil))) (List.Sublist.cons _ List.Sublist.slnil) (List.Sublist.cons _ (List.Sublist.cons _ List.Sublist.slnil)))⟩
    · refine Rf.aelt fun h220 h221 => ?_
      refine Rf.stoArr 0 C209 rfl fun l224 s222 (C223 : Cx s0.next [] [] s0 s222 [(i118, AObj.box 76 (List.map (Value.int .i64) l224)), (i21, AObj.box 71 [(Value.slice A200 (r198.2.2.1).length c201), (Value.int .i64 r198.2.2.2)]), (i22, AObj.box 24 [(Value.int .i64 0), (Value.int .i64 0)])] [(On.mk (rP (rI .i64) (rP (rI .i64) (rP (rI .i64) (rI .i64)))) y19 A17 c18 51)] [(Fa.sr (rI .u8) A200 c201 r198.2.2.1), (Fa.sr (rI .u8) A112 c113 y114)]) => ?_
      subst hH; subst hQ
      exact Rf.leaf fun h => h _ _ _ ⟨rfl, _, _, rfl, (C223.sub (List.Sublist.refl _) (List.Sublist.refl _) (List.Sublist.cons_cons _ (List.Sublist.cons _ List.Sublist.slnil)))⟩
  · subst hH; subst hQ
    exact Rf.leaf fun h => h _ _ _ ⟨_, _, rfl, rfl, (C196.sub (List.Sublist.refl _) (List.Sublist.refl _) (List.Sublist.refl _))⟩
abbrev Inv18_1 (s0 : St) (p0 : (List Int)) (A0 : Option Addr) (c0 : Nat) (h0 : Sr (rI .u8) s0 A0 c0 p0) (i21 : Nat) (i22 : Nat) (t : ((List Int) × Int × (List (Int × Int × Int × Int)) × Int)) (g : Regs) (s : St) : Prop := ∃ (A8 : Option Addr) (c9 : Nat) (A17 : Option Addr) (c18 : Nat), g = (rg 76 [(0, (Value.slice A0 (p0).length c0)), (3, (Value.pointer (some ⟨i22, 0, none⟩))), (4, (Value.pointer (some ⟨i21, 0, none⟩))), (5, (Value.slice A17 (t.2.2.1).length c18)), (6, (Value.int .i64 t.2.2.2))]) ∧ Cx s0.next [] [] s0 s [(i21, AObj.box 71 [(Value.slice A8 (t.1).length c9), (Value.int .i64 t.2.1)]), (i22, AObj.box 24 [(Value.int .i64 0), (Value.int .i64 0)])] [(On.mk (rP (rI .i64) (rP (rI .i64) (rP (rI .i64) (rI .i64)))) t.2.2.1 A17 c18 51)] [(Fa.sr (rI .u8) A8 c9 t.1)]
abbrev Ex18_1 (s0 : St) (p0 : (List Int)) (A0 : Option Addr) (c0 : Nat) (h0 : Sr (rI .u8) s0 A0 c0 p0) (i21 : Nat) (i22 : Nat) (t : (((List Int) × Int × (List (Int × Int × Int × Int)) × Int) ⊕ (Int × Int))) (e : X) (g : Regs) (s : St) : Prop := match t with
  | (.inl t) => ∃ (A440 : Option Addr) (c441 : Nat) (A445 : Option Addr) (c446 : Nat), e = .exit 0 ∧ g = (rg 76 [(0, (Value.slice A0 (p0).length c0)), (3, (Value.pointer (some ⟨i22, 0, none⟩))), (4, (Value.pointer (some ⟨i21, 0, none⟩))), (5, (Value.slice A445 (t.2.2.1).length c446)), (6, (Value.int .i64 t.2.2.2)), (23, (Value.bool false))]) ∧ Cx s0.next [] [] s0 s [(i21, AObj.box 71 [(Value.slice A440 (t.1).length c441), (Value.int .i64 t.2.1)]), (i22, AObj.box 24 [(Value.int .i64 0), (Value.int .i64 0)])] [(On.mk (rP (rI .i64) (rP (rI .i64) (rP (rI .i64) (rI .i64)))) t.2.2.1 A445 c446 51)] [(Fa.sr (rI .u8) A440 c441 t.1)]
  | (.inr t) => e = .ret ∧ g = (rg 76 [(2, (Value.slice none 0 0)), (3, (Value.pointer (some ⟨i22, 0, none⟩)))]) ∧ Cx s0.next [] [] s0 s [(i22, AObj.box 24 [(Value.int .i64 t.1), (Value.int .i64 t.2)])] [] []
theorem x18_1 (s0 : St) (p0 : (List Int)) (A0 : Option Addr) (c0 : Nat) (h0 : Sr (rI .u8) s0 A0 c0 p0) (i21 : Nat) (i22 : Nat) (t : (((List Int) × Int × (List (Int × Int × Int × Int)) × Int) ⊕ (Int × Int))) (e : X) (g : Regs) (s : St) (h : Ex18_1 s0 p0 A0 c0 h0 i21 i22 t e g s) : e ≠ .normal := by
  rcases t with t | t
  · obtain ⟨_, _, _, _, h, _⟩ := h
    rw [h]; intro hh; cases hh
  · obtain ⟨h, _⟩ := h
    rw [h]; intro hh; cases hh
def pb18_1 (n : Nat) (p0 : (List Int)) (t : ((List Int) × Int × (List (Int × Int × Int × Int)) × Int)) : Option (((List Int) × Int × (List (Int × Int × Int × Int)) × Int) ⊕ (((List Int) × Int × (List (Int × Int × Int × Int)) × Int) ⊕ (Int × Int))) :=
  (if (decide ((t.2.1 : Int) < ((p0).length : Nat))) then ((((((loopP (pb18_2 n t.2.1) n (t.1, t.2.1, [0, 0, 0, 0], 0)).bind fun t438 => match t438 with | (.inl t234) => (inb 4 0 (rd t234.2.2.1 0 (fun x317 => (p37 n x317).bind fun r319 => (inb 4 1 (rd t234.2.2.1 1 (fun x328 => (inb 4 2 (rd t234.2.2.1 2 (fun x334 => (p37 n x334).bind fun r336 => inb 4 3 (rd t234.2.2.1 3 (fun x344 => apP 32 t.2.2.1 [((IntKind.wrap .i64 (t.2.2.2 + r319)), (IntKind.wrap .i64 ((IntKind.wrap .i64 (t.2.2.2 + r319)) + x328)), (IntKind.wrap .i64 ((IntKind.wrap .i64 ((IntKind.wrap .i64 (t.2.2.2 + r319)) + x328)) + r336)), x344)] (fun y351 => (some (.inl (t234.1, t234.2.1, (t.2.2.1 ++ [((IntKind.wrap .i64 (t.2.2.2 + r319)), (IntKind.wrap .i64 ((IntKind.wrap .i64 (t.2.2.2 + r319)) + x328)), (IntKind.wrap .i64 ((IntKind.wrap .i64 ((IntKind.wrap .i64 (t.2.2.2 + r319)) + x328)) + r336)), x344)]), (IntKind.wrap .i64 (t.2.2.2 + r319))))))))))))))))) | (.inr t359) => ((some (.inr (.inr (t359.1, t359.2)))))))))) else (((some (.inr (.inl (t.1, t.2.1, t.2.2.1, t.2.2.2)))))))
theorem b18_1 (n : Nat) (s0 : St) (p0 : (List Int)) (A0 : Option Addr) (c0 : Nat) (h0 : Sr (rI .u8) s0 A0 c0 p0) (i21 : Nat) (i22 : Nat) (t : ((List Int) × Int × (List (Int × Int × Int × Int)) × Int)) (g : Regs) (s99 : St) (K : Kont) (Q : Out → St → Prop) (h : Inv18_1 s0 p0 A0 c0 h0 i21 i22 t g s99) :
    Rf (pb18_1 n p0 t) (fun r => ∀ e g' s', LK (Inv18_1 s0 p0 A0 c0 h0 i21 i22) (Ex18_1 s0 p0 A0 c0 h0 i21 i22) r e g' s' → Ev (K e g' s') Q) (fun _ => Q) (kBody E 18 n [.b, .b, .b, .b, .a, .a, .a] g s99 K) := by
  obtain ⟨y10, x13, y19, x20⟩ := t
  obtain ⟨A8, c9, A17, c18, rfl, C100⟩ := h
  rw [e18_body0 n]
  unfold pb18_1
  refine Rf.gen fun H Q hH hQ => ?_
  try dsimp only
  refine Rf.ldI (C100.at m0 rfl) ?_
  refine Rf.ite ?_ ?_
  · refine Rf.ldI (C100.at m0 rfl) ?_
    refine Rf.new C100 fun s108 (C109 : Cx s0.next [] [] s0 s108 [(s99.next, AObj.box 76 (List.map (Value.int .i64) [0, 0, 0, 0])), (i21, AObj.box 71 [(Value.slice A8 (y10).length c9), (Value.int .i64 x13)]), (i22, AObj.box 24 [(Value.int .i64 0), (Value.int .i64 0)])] [(On.mk (rP (rI .i64) (rP (rI .i64) (rP (rI .i64) (rI .i64)))) y19 A17 c18 51)] [(Fa.sr (rI .u8) A8 c9 y10)]) => ?_
    refine Rf.loop (Inv := Inv18_2 s0 p0 A0 c0 h0 A17 c18 i21 i22 x13 x20 y19 s99.next) (Ex := Ex18_2 s0 p0 A0 c0 h0 A17 c18 i21 i22 x13 x20 y19 s99.next) (x18_2 s0 p0 A0 c0 h0 A17 c18 i21 i22 x13 x20 y19 s99.next) (fun t g s K Q h => b18_2 n s0 p0 A0 c0 h0 A17 c18 i21 i22 x13 x20 y19 s99.next t g s K Q h) n _ _ _ ⟨_, _, rfl, (C109.sub (List.Sublist.refl _) (List.Sublist.refl _) (List.Sublist.refl _))⟩ ?_
    intro t e g s h
    rcases t with t234 | t359
    · generalize s = s311 at h ⊢
      obtain ⟨A226, c227, rfl, rfl, C312⟩ := h
      rw [e18_after1_exit2 n]
      refine Rf.aelt fun h315 h316 => ?_
      refine Rf.arr fun x317 x317_h => ?_
      refine Rf.ldI (Cx.atArr C312 m0 x317_h) ?_
      refine Rf.call0 C312 (t37 n x317 s311) ?_
      rintro r319 _ s320 rfl h322
      have C323 : Cx s0.next [] [] s0 s320 [(s99.next, AObj.box 76 (List.map (Value.int .i64) t234.2.2.1)), (i21, AObj.box 71 [(Value.slice A226 (t234.1).length c227), (Value.int .i64 t234.2.1)]), (i22, AObj.box 24 [(Value.int .i64 0), (Value.int .i64 0)])] [(On.mk (rP (rI .i64) (rP (rI .i64) (rP (rI .i64) (rI .i64)))) y19 A17 c18 51)] [(Fa.sr (rI .u8) A226 c227 t234.1)] := h322 [] (by simp) List.Pairwise.nil
      refine (Rf.asI ?_)
      refine Rf.aelt fun h326 h327 => ?_
      refine Rf.arr fun x328 x328_h => ?_
      refine Rf.ldI (Cx.atArr C323 m0 x328_h) ?_
      refine Rf.aelt fun h332 h333 => ?_
      refine Rf.arr fun x334 x334_h => ?_
      refine Rf.ldI (Cx.atArr C323 m0 x334_h) ?_
      refine Rf.callZ (t37 n x334 St.bare) ?_
      rintro r336 _ s337 rfl
      refine (Rf.asI ?_)
      refine Rf.aelt fun h342 h343 => ?_
      refine Rf.arr fun x344 x344_h => ?_
      refine Rf.ldI (Cx.atArr C323 m0 x344_h) ?_
      refine Rf.newR (r := (rP (rI .i64) (rP (rI .i64) (rP (rI .i64) (rI .i64))))) (xs := [((IntKind.wrap .i64 (x20 + r319)), (IntKind.wrap .i64 ((IntKind.wrap .i64 (x20 + r319)) + x328)), (IntKind.wrap .i64 ((IntKind.wrap .i64 ((IntKind.wrap .i64 (x20 + r319)) + x328)) + r336)), x344)]) C323 rfl (many.cons (c := [(Value.int .i64 (IntKind.wrap .i64 (x20 + r319))), (Value.int .i64 (IntKind.wrap .i64 ((IntKind.wrap .i64 (x20 + r319)) + x328))), (Value.int .i64 (IntKind.wrap .i64 ((IntKind.wrap .i64 ((IntKind.wrap .i64 (x20 + r319)) + x328)) + r336))), (Value.int .i64 x344)]) (rP_mk rI_mk (rP_mk rI_mk (rP_mk rI_mk rI_mk))) many.nil) fun s346 (C347 : Cx s0.next [] [] s0 s346 [(s99.next, AObj.box 76 (List.map (Value.int .i64) t234.2.2.1)), (i21, AObj.box 71 [(Value.slice A226 (t234.1).length c227), (Value.int .i64 t234.2.1)]), (i22, AObj.box 24 [(Value.int .i64 0), (Value.int .i64 0)])] [(On.mk (rP (rI .i64) (rP (rI .i64) (rP (rI .i64) (rI .i64)))) [((IntKind.wrap .i64 (x20 + r319)), (IntKind.wrap .i64 ((IntKind.wrap .i64 (x20 + r319)) + x328)), (IntKind.wrap .i64 ((IntKind.wrap .i64 ((IntKind.wrap .i64 (x20 + r319)) + x328)) + r336)), x344)] (some ⟨s320.next, 0, none⟩) 1 51), (On.mk (rP (rI .i64) (rP (rI .i64) (rP (rI .i64) (rI .i64)))) y19 A17 c18 51)] [(Fa.sr (rI .u8) A226 c227 t234.1)]) => ?_
      refine Rf.kappA 1 C347 rfl rfl (by decide) (by decide) (Ap.sr u47 rfl (C347.lb.srB m0)) fun A349 c350 s355 h356 (C354 : Cx s0.next [] [] s0 { s355 with lowb := min s346.lowb s355.lowb } [(s99.next, AObj.box 76 (List.map (Value.int .i64) t234.2.2.1)), (i21, AObj.box 71 [(Value.slice A226 (t234.1).length c227), (Value.int .i64 t234.2.1)]), (i22, AObj.box 24 [(Value.int .i64 0), (Value.int .i64 0)])] [(On.mk (rP (rI .i64) (rP (rI .i64) (rP (rI .i64) (rI .i64)))) [((IntKind.wrap .i64 (x20 + r319)), (IntKind.wrap .i64 ((IntKind.wrap .i64 (x20 + r319)) + x328)), (IntKind.wrap .i64 ((IntKind.wrap .i64 ((IntKind.wrap .i64 (x20 + r319)) + x328)) + r336)), x344)] (some ⟨s320.next, 0, none⟩) 1 51), (On.mk (rP (rI .i64) (rP (rI .i64) (rP (rI .i64) (rI .i64)))) (y19 ++ [((IntKind.wrap .i64 (x20 + r319)), (IntKind.wrap .i64 ((IntKind.wrap .i64 (x20 + r319)) + x328)), (IntKind.wrap .i64 ((IntKind.wrap .i64 ((IntKind.wrap .i64 (x20 + r319)) + x328)) + r336)), x344)]) A349 c350 51)] [(Fa.sr (rI .u8) A226 c227 t234.1)]) => ?_
      refine Rf.ifp h356 ?_
      refine Rf.lt ?_
      generalize { s355 with lowb := min s346.lowb s355.lowb } = s353 at C354 ⊢
      have C357 : Cx s0.next [] [] s0 s353 [(s99.next, AObj.box 76 (List.map (Value.int .i64) t234.2.2.1)), (i21, AObj.box 71 [(Value.slice A226 (t234.1).length c227), (Value.int .i64 t234.2.1)]), (i22, AObj.box 24 [(Value.int .i64 0), (Value.int .i64 0)])] [(On.mk (rP (rI .i64) (rP (rI .i64) (rP (rI .i64) (rI .i64)))) (y19 ++ [((IntKind.wrap .i64 (x20 + r319)), (IntKind.wrap .i64 ((IntKind.wrap .i64 (x20 + r319)) + x328)), (IntKind.wrap .i64 ((IntKind.wrap .i64 ((IntKind.wrap .i64 (x20 + r319)) + x328)) + r336)), x344)]) A349 c350 51)] [(Fa.sr (rI .u8) A226 c227 t234.1)] := C354.sub (List.Sublist.refl _) (List.Sublist.cons _ (List.Sublist.cons_cons _ List.Sublist.slnil)) (List.Sublist.refl _)
      subst hH; subst hQ
      exact Rf.leaf fun h => h _ _ _ ⟨rfl, _, _, _, _, rfl, (C357.sub (List.Sublist.cons _ (List.Sublist.cons_cons _ (List.Sublist.cons_cons _ List.Sublist.slnil))) (List.Sublist.refl _) (List.Sublist.refl _))⟩
    · generalize s = s436 at h ⊢
      obtain ⟨rfl, rfl, C437⟩ := h
      rw [e18_after1_ret n]
      subst hH; subst hQ
      exact Rf.leaf fun h => h _ _ _ ⟨rfl, rfl, (C437.sub (List.Sublist.refl _) (List.Sublist.refl _) (List.Sublist.refl _))⟩
  · subst hH; subst hQ
    exact Rf.leaf fun h => h _ _ _ ⟨_, _, _, _, rfl, rfl, (C100.sub (List.Sublist.refl _) (List.Sublist.refl _) (List.Sublist.refl _))⟩
abbrev P18 (N : Nat) (X : List Nat) (r : ((List (Int × Int × Int × Int)) × (Int × Int))) (v : Value) (s : St) : Prop := ∃ (A0 : Option Addr) (c0 : Nat), v = (Value.tuple #[(Value.slice A0 (r.1).length c0), (Value.agg #[(Value.int .i64 r.2.1), (Value.int .i64 r.2.2)])]) ∧ (On.mk (rP (rI .i64) (rP (rI .i64) (rP (rI .i64) (rI .i64)))) r.1 A0 c0 51).holds N X s
def p18 : Nat → (List Int) → Option ((List (Int × Int × Int × Int)) × (Int × Int))
  | 0, _ => none
  | n + 1, p0 => (((((loopP (pb18_1 n p0) n (p0, 0, ([] : List (Int × Int × Int × Int)), 0)).bind fun t641 => match t641 with | (.inl t451) => ((p39 n t451.2.2.1).bind fun r530 => ((if (!(((r530.1 : Int) == 0) && (((r530.2 : Int) == 0) && true))) then ((p28 n r530.1 (-1)).bind fun r546 => ((some (([] : (List (Int × Int × Int × Int))), (r546.1, r546.2))))) else (((some (t451.2.2.1, (0, 0)))))))) | (.inr t560) => (some (([] : (List (Int × Int × Int × Int))), (t560.1, t560.2)))))))
theorem t18 (k : Nat) (p0 : (List Int)) (s0 : St) {A0 : Option Addr} {c0 : Nat} (h0 : Sr (rI .u8) s0 A0 c0 p0) :
    Rf (p18 k p0) (fun _ => True) (fun r => RtC s0.next [] [] s0 (P18 s0.next [] r)) (acall E k 18 [(Value.slice A0 (p0).length c0)] s0) := by
  cases k with
  | zero => exact Rf.none
  | succ n =>
    rw [e18 n]
    rw [p18]
    refine Rf.gen fun H Q hH hQ => ?_
    have C0 : Cx s0.next [] [] s0 s0 [] [] [] := Cx.start s0
    refine Rf.new C0 fun s1 (C2 : Cx s0.next [] [] s0 s1 [(s0.next, AObj.box 24 [(Value.int .i64 0), (Value.int .i64 0)])] [] []) => ?_
    refine Rf.new C2 fun s4 (C5 : Cx s0.next [] [] s0 s4 [(s1.next, AObj.box 71 [(Value.slice A0 (p0).length c0), (Value.int .i64 0)]), (s0.next, AObj.box 24 [(Value.int .i64 0), (Value.int .i64 0)])] [] []) => ?_
    have C12 := C5.add (Fa.sr (rI .u8) A0 c0 p0) (C5.sr0 rfl h0)
    have C15 : Cx s0.next [] [] s0 s4 [(s1.next, AObj.box 71 [(Value.slice A0 (p0).length c0), (Value.int .i64 0)]), (s0.next, AObj.box 24 [(Value.int .i64 0), (Value.int .i64 0)])] [(On.mk (rP (rI .i64) (rP (rI .i64) (rP (rI .i64) (rI .i64)))) ([] : List (Int × Int × Int × Int)) none 0 51)] [(Fa.sr (rI .u8) A0 c0 p0)] := C12.addNil (rP (rI .i64) (rP (rI .i64) (rP (rI .i64) (rI .i64)))) 51
    refine Rf.loop (Inv := Inv18_1 s0 p0 A0 c0 h0 s1.next s0.next) (Ex := Ex18_1 s0 p0 A0 c0 h0 s1.next s0.next) (x18_1 s0 p0 A0 c0 h0 s1.next s0.next) (fun t g s K Q h => b18_1 n s0 p0 A0 c0 h0 s1.next s0.next t g s K Q h) n _ _ _ ⟨_, _, _, _, rfl, (C15.sub (List.Sublist.refl _) (List.Sublist.refl _) (List.Sublist.refl _))⟩ ?_
    intro t e g s h
    rcases t with t451 | t560
    · generalize s = s528 at h ⊢
      obtain ⟨A440, c441, A445, c446, rfl, rfl, C529⟩ := h
      rw [e18_after0_exit0 n]
      refine Rf.call0 C529 (t39 n t451.2.2.1 s528 (C529.srB m0)) ?_
      rintro r530 _ s531 rfl h534
      have C535 : Cx s0.next [] [] s0 s531 [(s1.next, AObj.box 71 [(Value.slice A440 (t451.1).length c441), (Value.int .i64 t451.2.1)]), (s0.next, AObj.box 24 [(Value.int .i64 0), (Value.int .i64 0)])] [(On.mk (rP (rI .i64) (rP (rI .i64) (rP (rI .i64) (rI .i64)))) t451.2.2.1 A445 c446 51)] [(Fa.sr (rI .u8) A440 c441 t451.1)] := h534 [] (by simp) List.Pairwise.nil
      refine (Rf.asAgg (Rf.unc (Rf.asI (Rf.unc (Rf.asI (Rf.unn ?_))))))
      refine Rf.new C535 fun s536 (C537 : Cx s0.next [] [] s0 s536 [(s531.next, AObj.box 24 [(Value.int .i64 0), (Value.int .i64 0)]), (s1.next, AObj.box 71 [(Value.slice A440 (t451.1).length c441), (Value.int .i64 t451.2.1)]), (s0.next, AObj.box 24 [(Value.int .i64 0), (Value.int .i64 0)])] [(On.mk (rP (rI .i64) (rP (rI .i64) (rP (rI .i64) (rI .i64)))) t451.2.2.1 A445 c446 51)] [(Fa.sr (rI .u8) A440 c441 t451.1)]) => ?_
      refine Rf.sto 0 C537 rfl (by simp) rfl fun s539 (C540 : Cx s0.next [] [] s0 s539 [(s531.next, AObj.box 24 [(Value.int .i64 r530.1), (Value.int .i64 r530.2)]), (s1.next, AObj.box 71 [(Value.slice A440 (t451.1).length c441), (Value.int .i64 t451.2.1)]), (s0.next, AObj.box 24 [(Value.int .i64 0), (Value.int .i64 0)])] [(On.mk (rP (rI .i64) (rP (rI .i64) (rP (rI .i64) (rI .i64)))) t451.2.2.1 A445 c446 51)] [(Fa.sr (rI .u8) A440 c441 t451.1)]) => ?_
      refine Rf.ldI (C540.at m0 rfl) ?_
      refine Rf.ldI (C540.at m0 rfl) ?_
      refine Rf.ite ?_ ?_
      · refine Rf.ldI (C540.at m0 rfl) ?_
        refine Rf.call0 C540 (t28 n r530.1 (-1) s539) ?_
        rintro r546 _ s547 rfl h550
        have C551 : Cx s0.next [] [] s0 s547 [(s531.next, AObj.box 24 [(Value.int .i64 r530.1), (Value.int .i64 r530.2)]), (s1.next, AObj.box 71 [(Value.slice A440 (t451.1).length c441), (Value.int .i64 t451.2.1)]), (s0.next, AObj.box 24 [(Value.int .i64 0), (Value.int .i64 0)])] [(On.mk (rP (rI .i64) (rP (rI .i64) (rP (rI .i64) (rI .i64)))) t451.2.2.1 A445 c446 51)] [(Fa.sr (rI .u8) A440 c441 t451.1)] := h550 [] (by simp) List.Pairwise.nil
        refine (Rf.asAgg (Rf.unc (Rf.asI (Rf.unc (Rf.asI (Rf.unn ?_))))))
        refine Rf.sto 2 C551 rfl (by simp) rfl fun s552 (C553 : Cx s0.next [] [] s0 s552 [(s531.next, AObj.box 24 [(Value.int .i64 r530.1), (Value.int .i64 r530.2)]), (s1.next, AObj.box 71 [(Value.slice A440 (t451.1).length c441), (Value.int .i64 t451.2.1)]), (s0.next, AObj.box 24 [(Value.int .i64 r546.1), (Value.int .i64 r546.2)])] [(On.mk (rP (rI .i64) (rP (rI .i64) (rP (rI .i64) (rI .i64)))) t451.2.2.1 A445 c446 51)] [(Fa.sr (rI .u8) A440 c441 t451.1)]) => ?_
        refine Rf.ldI (C553.at m2 rfl) ?_
        refine Rf.ldI (C553.at m2 rfl) ?_
        subst hH; subst hQ
        exact Rf.leaf fun _ => Ev.done (Rf.ret C553 ⟨_, _, rfl, .inl ⟨rfl, rfl, rfl⟩⟩)
      · refine Rf.sto 2 C540 rfl (by simp) rfl fun s556 (C557 : Cx s0.next [] [] s0 s556 [(s531.next, AObj.box 24 [(Value.int .i64 r530.1), (Value.int .i64 r530.2)]), (s1.next, AObj.box 71 [(Value.slice A440 (t451.1).length c441), (Value.int .i64 t451.2.1)]), (s0.next, AObj.box 24 [(Value.int .i64 0), (Value.int .i64 0)])] [(On.mk (rP (rI .i64) (rP (rI .i64) (rP (rI .i64) (rI .i64)))) t451.2.2.1 A445 c446 51)] [(Fa.sr (rI .u8) A440 c441 t451.1)]) => ?_
        refine Rf.ldI (C557.at m2 rfl) ?_
        refine Rf.ldI (C557.at m2 rfl) ?_
        subst hH; subst hQ
        exact Rf.leaf fun _ => Ev.done (Rf.ret C557 ⟨_, _, rfl, C557.own _ m0⟩)
    · generalize s = s637 at h ⊢
      obtain ⟨rfl, rfl, C638⟩ := h
      rw [e18_after0_ret n]
      refine Rf.ldI (C638.at m0 rfl) ?_
      refine Rf.ldI (C638.at m0 rfl) ?_
      subst hH; subst hQ
      exact Rf.leaf fun _ => Ev.done (Rf.ret C638 ⟨_, _, rfl, .inl ⟨rfl, rfl, rfl⟩⟩)
-- 19 "brindlewood/brindlewoodref7.CatchesFault"
abbrev Inv19_1 (s0 : St) (p0 : (List (Int × Int × Int × Int))) (A0 : Option Addr) (c0 : Nat) (h0 : Sr (rP (rI .i64) (rP (rI .i64) (rP (rI .i64) (rI .i64)))) s0 A0 c0 p0) (i15 : Nat) (t : Int) (g : Regs) (s : St) : Prop := g = (rg 47 [(2, (Value.pointer (some ⟨i15, 0, none⟩))), (9, (Value.slice A0 (p0).length c0)), (10, (Value.int .i64 ((p0).length : Nat))), (11, (Value.int .i64 t))]) ∧ Cx s0.next [] [] s0 s [(i15, AObj.box 24 [(Value.int .i64 0), (Value.int .i64 0)])] [] []
abbrev Ex19_1 (s0 : St) (p0 : (List (Int × Int × Int × Int))) (A0 : Option Addr) (c0 : Nat) (h0 : Sr (rP (rI .i64) (rP (rI .i64) (rP (rI .i64) (rI .i64)))) s0 A0 c0 p0) (i15 : Nat) (t : (Int ⊕ (Int × Int))) (e : X) (g : Regs) (s : St) : Prop := match t with
  | (.inl t) => e = .exit 0 ∧ g = (rg 47 [(2, (Value.pointer (some ⟨i15, 0, none⟩))), (9, (Value.slice A0 (p0).length c0)), (10, (Value.int .i64 ((p0).length : Nat))), (11, (Value.int .i64 t)), (12, (Value.bool false))]) ∧ Cx s0.next [] [] s0 s [(i15, AObj.box 24 [(Value.int .i64 0), (Value.int .i64 0)])] [] []
  | (.inr t) => e = .ret ∧ g = (rg 47 [(2, (Value.pointer (some ⟨i15, 0, none⟩)))]) ∧ Cx s0.next [] [] s0 s [(i15, AObj.box 24 [(Value.int .i64 t.1), (Value.int .i64 t.2)])] [] []
theorem x19_1 (s0 : St) (p0 : (List (Int × Int × Int × Int))) (A0 : Option Addr) (c0 : Nat) (h0 : Sr (rP (rI .i64) (rP (rI .i64) (rP (rI .i64) (rI .i64)))) s0 A0 c0 p0) (i15 : Nat) (t : (Int ⊕ (Int × Int))) (e : X) (g : Regs) (s : St) (h : Ex19_1 s0 p0 A0 c0 h0 i15 t e g s) : e ≠ .normal := by
  rcases t with t | t
  · obtain ⟨h, _⟩ := h
    rw [h]; intro hh; cases hh
  · obtain ⟨h, _⟩ := h
    rw [h]; intro hh; cases hh
def pb19_1 (n : Nat) (p0 : (List (Int × Int × Int × Int))) (t : Int) : Option (Int ⊕ (Int ⊕ (Int × Int))) :=
  (if (decide ((t : Int) < ((p0).length : Nat))) then ((rd p0 t (fun x66 => (pj (fun (b126 : Bool) => if b126 then ((p10 n 4 t).bind fun r130 => (((some (.inr (.inr (r130.1, r130.2))))))) else (((some (.inl (IntKind.wrap .i64 (t + 1))))))) (fun J125 => if (decide ((x66.1 : Int) < 0)) then ((J125 true)) else (if (decide ((x66.1 : Int) ≥ x66.2.1)) then ((J125 true)) else (if (decide ((x66.2.1 : Int) > 60000)) then ((J125 true)) else ((p33 n x66.2.2.1 0 59999).bind fun r112 => if (!r112) then ((J125 true)) else ((p33 n x66.2.2.2 0 5000).bind fun r120 => (J125 (!r120))))))))))) else (((some (.inr (.inl t))))))
theorem b19_1 (n : Nat) (s0 : St) (p0 : (List (Int × Int × Int × Int))) (A0 : Option Addr) (c0 : Nat) (h0 : Sr (rP (rI .i64) (rP (rI .i64) (rP (rI .i64) (rI .i64)))) s0 A0 c0 p0) (i15 : Nat) (x14 : Int) (g : Regs) (s63 : St) (K : Kont) (Q : Out → St → Prop) (h : Inv19_1 s0 p0 A0 c0 h0 i15 x14 g s63) :
    Rf (pb19_1 n p0 x14) (fun r => ∀ e g' s', LK (Inv19_1 s0 p0 A0 c0 h0 i15) (Ex19_1 s0 p0 A0 c0 h0 i15) r e g' s' → Ev (K e g' s') Q) (fun _ => Q) (kBody E 19 n [.b, .b, .a, .b, .a, .a] g s63 K) := by
  obtain ⟨rfl, C64⟩ := h
  rw [e19_body0 n]
  unfold pb19_1
  refine Rf.gen fun H Q hH hQ => ?_
  refine Rf.ite ?_ ?_
  · refine Rf.elt (r := (rP (rI .i64) (rP (rI .i64) (rP (rI .i64) (rI .i64))))) (C64.sr0 rfl h0) rfl fun x66 i67 o68 c69 r70 h71 => ?_
    obtain ⟨c76, c77, rfl, r78, r79⟩ := rP_elim r70
    obtain rfl := rI_elim r78
    obtain ⟨c80, c81, rfl, r82, r83⟩ := rP_elim r79
    obtain rfl := rI_elim r82
    obtain ⟨c84, c85, rfl, r86, r87⟩ := rP_elim r83
    obtain rfl := rI_elim r86
    obtain rfl := rI_elim r87
    refine Rf.ldI (h71.at 0 rfl) ?_
    refine Rf.ldI (h71.at 1 rfl) ?_
    refine Rf.ldI (h71.at 2 rfl) ?_
    refine Rf.ldI (h71.at 3 rfl) ?_
    refine Rf.new C64 fun s92 (C93 : Cx s0.next [] [] s0 s92 [(s63.next, AObj.box 51 [(Value.int .i64 0), (Value.int .i64 0), (Value.int .i64 0), (Value.int .i64 0)]), (i15, AObj.box 24 [(Value.int .i64 0), (Value.int .i64 0)])] [] []) => ?_
    refine Rf.sto 0 C93 rfl (by simp) rfl fun s95 (C96 : Cx s0.next [] [] s0 s95 [(s63.next, AObj.box 51 [(Value.int .i64 x66.1), (Value.int .i64 x66.2.1), (Value.int .i64 x66.2.2.1), (Value.int .i64 x66.2.2.2)]), (i15, AObj.box 24 [(Value.int .i64 0), (Value.int .i64 0)])] [] []) => ?_
    refine Rf.pj fun J125 J125' hJ125 hJ125' => ?_
    have J125h : ∀ (b126 : Bool) (s128 : St) (_ : Cx s0.next [] [] s0 s128 [(i15, AObj.box 24 [(Value.int .i64 0), (Value.int .i64 0)])] [] []), Rf (J125 b126) H Q (J125' b126 s128) := by
      subst hJ125
      subst hJ125'
      intro b126 s128 C129
      refine Rf.ite ?_ ?_
      · refine Rf.call0 C129 (t10 n 4 x14 s128) ?_
        rintro r130 _ s131 rfl h134
        have C135 : Cx s0.next [] [] s0 s131 [(i15, AObj.box 24 [(Value.int .i64 0), (Value.int .i64 0)])] [] [] := h134 [] (by simp) List.Pairwise.nil
        refine (Rf.asAgg (Rf.unc (Rf.asI (Rf.unc (Rf.asI (Rf.unn ?_))))))
        refine Rf.sto 0 C135 rfl (by simp) rfl fun s136 (C137 : Cx s0.next [] [] s0 s136 [(i15, AObj.box 24 [(Value.int .i64 r130.1), (Value.int .i64 r130.2)])] [] []) => ?_
        subst hH; subst hQ
        exact Rf.leaf fun h => h _ _ _ ⟨rfl, rfl, (C137.sub (List.Sublist.refl _) (List.Sublist.refl _) (List.Sublist.refl _))⟩
      · subst hH; subst hQ
        exact Rf.leaf fun h => h _ _ _ ⟨rfl, rfl, (C129.sub (List.Sublist.refl _) (List.Sublist.refl _) (List.Sublist.refl _))⟩
    clear hJ125 hJ125'
    refine Rf.ldI (C96.at m0 rfl) ?_
    refine Rf.ite ?_ ?_
    · exact J125h true _ (C96.sub (List.Sublist.cons _ (List.Sublist.cons_cons _ List.Sublist.slnil)) (List.Sublist.refl _) (List.Sublist.refl _))
    · refine Rf.ldI (C96.at m0 rfl) ?_
      refine Rf.ldI (C96.at m0 rfl) ?_
      refine Rf.ite ?_ ?_
      · exact J125h true _ (C96.sub (List.Sublist.cons _ (List.Sublist.cons_cons _ List.Sublist.slnil)) (List.Sublist.refl _) (List.Sublist.refl _))
      · refine Rf.ldI (C96.at m0 rfl) ?_
        refine Rf.ite ?_ ?_
        · exact J125h true _ (C96.sub (List.Sublist.cons _ (List.Sublist.cons_cons _ List.Sublist.slnil)) (List.Sublist.refl _) (List.Sublist.refl _))
        · refine Rf.ldI (C96.at m0 rfl) ?_
          refine Rf.call0 C96 (t33 n x66.2.2.1 0 59999 s95) ?_
          rintro r112 _ s113 rfl h115
          have C116 : Cx s0.next [] [] s0 s113 [(s63.next, AObj.box 51 [(Value.int .i64 x66.1), (Value.int .i64 x66.2.1), (Value.int .i64 x66.2.2.1), (Value.int .i64 x66.2.2.2)]), (i15, AObj.box 24 [(Value.int .i64 0), (Value.int .i64 0)])] [] [] := h115 [] (by simp) List.Pairwise.nil
          refine (Rf.asB ?_)
          refine Rf.ite ?_ ?_
          · exact J125h true _ (C116.sub (List.Sublist.cons _ (List.Sublist.cons_cons _ List.Sublist.slnil)) (List.Sublist.refl _) (List.Sublist.refl _))
          · refine Rf.ldI (C116.at m0 rfl) ?_
            refine Rf.call0 C116 (t33 n x66.2.2.2 0 5000 s113) ?_
            rintro r120 _ s121 rfl h123
            have C124 : Cx s0.next [] [] s0 s121 [(s63.next, AObj.box 51 [(Value.int .i64 x66.1), (Value.int .i64 x66.2.1), (Value.int .i64 x66.2.2.1), (Value.int .i64 x66.2.2.2)]), (i15, AObj.box 24 [(Value.int .i64 0), (Value.int .i64 0)])] [] [] := h123 [] (by simp) List.Pairwise.nil
            refine (Rf.asB ?_)
            exact J125h (!r120) _ (C124.sub (List.Sublist.cons _ (List.Sublist.cons_cons _ List.Sublist.slnil)) (List.Sublist.refl _) (List.Sublist.refl _))
  · subst hH; subst hQ
    exact Rf.leaf fun h => h _ _ _ ⟨rfl, rfl, (C64.sub (List.Sublist.refl _) (List.Sublist.refl _) (List.Sublist.refl _))⟩
abbrev P19 (N : Nat) (X : List Nat) (r : (Int × Int)) (v : Value) (s : St) : Prop := v = (Value.agg #[(Value.int .i64 r.1), (Value.int .i64 r.2)])
def p19 : Nat → (List (Int × Int × Int × Int)) → Option (Int × Int)
  | 0, _ => none
  | n + 1, p0 => ((if (decide ((((p0).length : Nat) : Int) > 60000)) then ((p10 n 2 (-1)).bind fun r4 => ((some (r4.1, r4.2)))) else ((((loopP (pb19_1 n p0) n 0).bind fun t247 => match t247 with | (.inl t141) => ((some (0, 0))) | (.inr t195) => (some (t195.1, t195.2)))))))
theorem t19 (k : Nat) (p0 : (List (Int × Int × Int × Int))) (s0 : St) {A0 : Option Addr} {c0 : Nat} (h0 : Sr (rP (rI .i64) (rP (rI .i64) (rP (rI .i64) (rI .i64)))) s0 A0 c0 p0) :
    Rf (p19 k p0) (fun _ => True) (fun r => RtC s0.next [] [] s0 (P19 s0.next [] r)) (acall E k 19 [(Value.slice A0 (p0).length c0)] s0) := by
  cases k with
  | zero => exact Rf.none
  | succ n =>
    rw [e19 n]
    rw [p19]
    refine Rf.gen fun H Q hH hQ => ?_
    have C0 : Cx s0.next [] [] s0 s0 [] [] [] := Cx.start s0
    refine Rf.new C0 fun s1 (C2 : Cx s0.next [] [] s0 s1 [(s0.next, AObj.box 24 [(Value.int .i64 0), (Value.int .i64 0)])] [] []) => ?_
    refine Rf.ite ?_ ?_
    · refine Rf.call0 C2 (t10 n 2 (-1) s1) ?_
      rintro r4 _ s5 rfl h8
      have C9 : Cx s0.next [] [] s0 s5 [(s0.next, AObj.box 24 [(Value.int .i64 0), (Value.int .i64 0)])] [] [] := h8 [] (by simp) List.Pairwise.nil
      refine (Rf.asAgg (Rf.unc (Rf.asI (Rf.unc (Rf.asI (Rf.unn ?_))))))
      refine Rf.sto 0 C9 rfl (by simp) rfl fun s10 (C11 : Cx s0.next [] [] s0 s10 [(s0.next, AObj.box 24 [(Value.int .i64 r4.1), (Value.int .i64 r4.2)])] [] []) => ?_
      refine Rf.ldI (C11.at m0 rfl) ?_
      refine Rf.ldI (C11.at m0 rfl) ?_
      subst hH; subst hQ
      exact Rf.leaf fun _ => Ev.done (Rf.ret C11 rfl)
    · refine Rf.loop (Inv := Inv19_1 s0 p0 A0 c0 h0 s0.next) (Ex := Ex19_1 s0 p0 A0 c0 h0 s0.next) (x19_1 s0 p0 A0 c0 h0 s0.next) (fun t g s K Q h => b19_1 n s0 p0 A0 c0 h0 s0.next t g s K Q h) n _ _ _ ⟨rfl, (C2.sub (List.Sublist.refl _) (List.Sublist.refl _) (List.Sublist.refl _))⟩ ?_
      intro t e g s h
      rcases t with t141 | t195
      · generalize s = s189 at h ⊢
        obtain ⟨rfl, rfl, C190⟩ := h
        rw [e19_after0_exit0 n]
        refine Rf.sto 0 C190 rfl (by simp) rfl fun s191 (C192 : Cx s0.next [] [] s0 s191 [(s0.next, AObj.box 24 [(Value.int .i64 0), (Value.int .i64 0)])] [] []) => ?_
        refine Rf.ldI (C192.at m0 rfl) ?_
        refine Rf.ldI (C192.at m0 rfl) ?_
        subst hH; subst hQ
        exact Rf.leaf fun _ => Ev.done (Rf.ret C192 rfl)
      · generalize s = s243 at h ⊢
        obtain ⟨rfl, rfl, C244⟩ := h
        rw [e19_after0_ret n]
        refine Rf.ldI (C244.at m0 rfl) ?_
        refine Rf.ldI (C244.at m0 rfl) ?_
        subst hH; subst hQ
        exact Rf.leaf fun _ => Ev.done (Rf.ret C244 rfl)
-- 20 "slices.Equal[[]brindlewood/api.Catch,brindlewood/api.Catch]"
abbrev Inv20_1 (s0 : St) (p0 : (List (Int × Int × Int × Int))) (p1 : (List (Int × Int × Int × Int))) (A0 : Option Addr) (c0 : Nat) (A1 : Option Addr) (c1 : Nat) (h0 : Sr (rP (rI .i64) (rP (rI .i64) (rP (rI .i64) (rI .i64)))) s0 A0 c0 p0) (h1 : Sr (rP (rI .i64) (rP (rI .i64) (rP (rI .i64) (rI .i64)))) s0 A1 c1 p1)  (t : Int) (g : Regs) (s : St) : Prop := g = (rg 26 [(0, (Value.slice A0 (p0).length c0)), (1, (Value.slice A1 (p1).length c1)), (12, (Value.int .i64 ((p0).length : Nat))), (13, (Value.int .i64 t))]) ∧ Cx s0.next [] [] s0 s [] [] []
abbrev Ex20_1 (s0 : St) (p0 : (List (Int × Int × Int × Int))) (p1 : (List (Int × Int × Int × Int))) (A0 : Option Addr) (c0 : Nat) (A1 : Option Addr) (c1 : Nat) (h0 : Sr (rP (rI .i64) (rP (rI .i64) (rP (rI .i64) (rI .i64)))) s0 A0 c0 p0) (h1 : Sr (rP (rI .i64) (rP (rI .i64) (rP (rI .i64) (rI .i64)))) s0 A1 c1 p1)  (t : (Int ⊕ Unit)) (e : X) (g : Regs) (s : St) : Prop := match t with
  | (.inl t) => e = .exit 0 ∧ g = (rg 26 [(0, (Value.slice A0 (p0).length c0)), (1, (Value.slice A1 (p1).length c1)), (12, (Value.int .i64 ((p0).length : Nat))), (13, (Value.int .i64 t)), (14, (Value.bool false))]) ∧ Cx s0.next [] [] s0 s [] [] []
  | (.inr t) => e = .ret ∧ g = (rg 26 [(4, (Value.bool false))]) ∧ Cx s0.next [] [] s0 s [] [] []
theorem x20_1 (s0 : St) (p0 : (List (Int × Int × Int × Int))) (p1 : (List (Int × Int × Int × Int))) (A0 : Option Addr) (c0 : Nat) (A1 : Option Addr) (c1 : Nat) (h0 : Sr (rP (rI .i64) (rP (rI .i64) (rP (rI .i64) (rI .i64)))) s0 A0 c0 p0) (h1 : Sr (rP (rI .i64) (rP (rI .i64) (rP (rI .i64) (rI .i64)))) s0 A1 c1 p1)  (t : (Int ⊕ Unit)) (e : X) (g : Regs) (s : St) (h : Ex20_1 s0 p0 p1 A0 c0 A1 c1 h0 h1  t e g s) : e ≠ .normal := by
  rcases t with t | t
  · obtain ⟨h, _⟩ := h
    rw [h]; intro hh; cases hh
  · obtain ⟨h, _⟩ := h
    rw [h]; intro hh; cases hh
def pb20_1 (n : Nat) (p0 : (List (Int × Int × Int × Int))) (p1 : (List (Int × Int × Int × Int))) (t : Int) : Option (Int ⊕ (Int ⊕ Unit)) :=
  (if (decide ((t : Int) < ((p0).length : Nat))) then (((rd p0 t (fun x31 => rd p1 t (fun x57 => (if (!(((x31.1 : Int) == x57.1) && (((x31.2.1 : Int) == x57.2.1) && (((x31.2.2.1 : Int) == x57.2.2.1) && (((x31.2.2.2 : Int) == x57.2.2.2) && true))))) then ((((some (.inr (.inr ())))))) else (((some (.inl (IntKind.wrap .i64 (t + 1)))))))))))) else (((some (.inr (.inl t))))))
theorem b20_1 (n : Nat) (s0 : St) (p0 : (List (Int × Int × Int × Int))) (p1 : (List (Int × Int × Int × Int))) (A0 : Option Addr) (c0 : Nat) (A1 : Option Addr) (c1 : Nat) (h0 : Sr (rP (rI .i64) (rP (rI .i64) (rP (rI .i64) (rI .i64)))) s0 A0 c0 p0) (h1 : Sr (rP (rI .i64) (rP (rI .i64) (rP (rI .i64) (rI .i64)))) s0 A1 c1 p1)  (x1 : Int) (g : Regs) (s28 : St) (K : Kont) (Q : Out → St → Prop) (h : Inv20_1 s0 p0 p1 A0 c0 A1 c1 h0 h1  x1 g s28) :
    Rf (pb20_1 n p0 p1 x1) (fun r => ∀ e g' s', LK (Inv20_1 s0 p0 p1 A0 c0 A1 c1 h0 h1 ) (Ex20_1 s0 p0 p1 A0 c0 A1 c1 h0 h1 ) r e g' s' → Ev (K e g' s') Q) (fun _ => Q) (kBody E 20 n [.b, .b, .a, .b, .a, .a] g s28 K) := by
  obtain ⟨rfl, C29⟩ := h
  rw [e20_body0 n]
  unfold pb20_1
  refine Rf.gen fun H Q hH hQ => ?_
  refine Rf.ite ?_ ?_
  · refine Rf.elt (r := (rP (rI .i64) (rP (rI .i64) (rP (rI .i64) (rI .i64))))) (C29.sr0 rfl h0) rfl fun x31 i32 o33 c34 r35 h36 => ?_
    obtain ⟨c41, c42, rfl, r43, r44⟩ := rP_elim r35
    obtain rfl := rI_elim r43
    obtain ⟨c45, c46, rfl, r47, r48⟩ := rP_elim r44
    obtain rfl := rI_elim r47
    obtain ⟨c49, c50, rfl, r51, r52⟩ := rP_elim r48
    obtain rfl := rI_elim r51
    obtain rfl := rI_elim r52
    refine Rf.ldI (h36.at 0 rfl) ?_
    refine Rf.ldI (h36.at 1 rfl) ?_
    refine Rf.ldI (h36.at 2 rfl) ?_
    refine Rf.ldI (h36.at 3 rfl) ?_
    refine Rf.elt (r := (rP (rI .i64) (rP (rI .i64) (rP (rI .i64) (rI .i64))))) (C29.sr0 rfl h1) rfl fun x57 i58 o59 c60 r61 h62 => ?_
    obtain ⟨c67, c68, rfl, r69, r70⟩ := rP_elim r61
    obtain rfl := rI_elim r69
    obtain ⟨c71, c72, rfl, r73, r74⟩ := rP_elim r70
    obtain rfl := rI_elim r73
    obtain ⟨c75, c76, rfl, r77, r78⟩ := rP_elim r74
    obtain rfl := rI_elim r77
    obtain rfl := rI_elim r78
    refine Rf.ldI (h62.at 0 rfl) ?_
    refine Rf.ldI (h62.at 1 rfl) ?_
    refine Rf.ldI (h62.at 2 rfl) ?_
    refine Rf.ldI (h62.at 3 rfl) ?_
    refine Rf.ite ?_ ?_
    · subst hH; subst hQ
      exact Rf.leaf fun h => h _ _ _ ⟨rfl, rfl, (C29.sub (List.Sublist.refl _) (List.Sublist.refl _) (List.Sublist.refl _))⟩
    · subst hH; subst hQ
      exact Rf.leaf fun h => h _ _ _ ⟨rfl, rfl, (C29.sub (List.Sublist.refl _) (List.Sublist.refl _) (List.Sublist.refl _))⟩
  · subst hH; subst hQ
    exact Rf.leaf fun h => h _ _ _ ⟨rfl, rfl, (C29.sub (List.Sublist.refl _) (List.Sublist.refl _) (List.Sublist.refl _))⟩
abbrev P20 (N : Nat) (X : List Nat) (r : Bool) (v : Value) (s : St) : Prop := v = (Value.bool r)
def p20 : Nat → (List (Int × Int × Int × Int)) → (List (Int × Int × Int × Int)) → Option Bool
  | 0, _, _ => none
  | n + 1, p0, p1 => ((if ((((p0).length : Nat) : Int) != ((p1).length : Nat)) then (((some false))) else ((((loopP (pb20_1 n p0 p1) n 0).bind fun t142 => match t142 with | (.inl t84) => ((some true)) | (.inr t113) => (some false))))))
theorem t20 (k : Nat) (p0 : (List (Int × Int × Int × Int))) (p1 : (List (Int × Int × Int × Int))) (s0 : St) {A0 : Option Addr} {c0 : Nat} {A1 : Option Addr} {c1 : Nat} (h0 : Sr (rP (rI .i64) (rP (rI .i64) (rP (rI .i64) (rI .i64)))) s0 A0 c0 p0) (h1 : Sr (rP (rI .i64) (rP (rI .i64) (rP (rI .i64) (rI .i64)))) s0 A1 c1 p1) :
    Rf (p20 k p0 p1) (fun _ => True) (fun r => RtC s0.next [] [] s0 (P20 s0.next [] r)) (acall E k 20 [(Value.slice A0 (p0).length c0), (Value.slice A1 (p1).length c1)] s0) := by
  cases k with
  | zero => exact Rf.none
  | succ n =>
    rw [e20 n]
    rw [p20]
    refine Rf.gen fun H Q hH hQ => ?_
    have C0 : Cx s0.next [] [] s0 s0 [] [] [] := Cx.start s0
    refine Rf.ite ?_ ?_
    · subst hH; subst hQ
      exact Rf.leaf fun _ => Ev.done (Rf.ret C0 rfl)
    · refine Rf.loop (Inv := Inv20_1 s0 p0 p1 A0 c0 A1 c1 h0 h1 ) (Ex := Ex20_1 s0 p0 p1 A0 c0 A1 c1 h0 h1 ) (x20_1 s0 p0 p1 A0 c0 A1 c1 h0 h1 ) (fun t g s K Q h => b20_1 n s0 p0 p1 A0 c0 A1 c1 h0 h1  t g s K Q h) n _ _ _ ⟨rfl, (C0.sub (List.Sublist.refl _) (List.Sublist.refl _) (List.Sublist.refl _))⟩ ?_
      intro t e g s h
      rcases t with t84 | t113
      · generalize s = s111 at h ⊢
        obtain ⟨rfl, rfl, C112⟩ := h
        rw [e20_after0_exit0 n]
        subst hH; subst hQ
        exact Rf.leaf fun _ => Ev.done (Rf.ret C112 rfl)
      · generalize s = s140 at h ⊢
        obtain ⟨rfl, rfl, C141⟩ := h
        rw [e20_after0_ret n]
        subst hH; subst hQ
        exact Rf.leaf fun _ => Ev.done (Rf.ret C141 rfl)
-- 21 "brindlewood/tables.PackCatches"
abbrev Inv21_2 (s0 : St) (p0 : (List (Int × Int × Int × Int))) (A0 : Option Addr) (c0 : Nat) (h0 : Sr (rP (rI .i64) (rP (rI .i64) (rP (rI .i64) (rI .i64)))) s0 A0 c0 p0) (i31 : Nat) (x30 : Int) (x91 : (Int × Int × Int × Int)) (A157 : Option Addr) (i156 : Nat) (r125 : Int) (r141 : Int) (t : ((List Int) × Int)) (g : Regs) (s : St) : Prop := ∃ (A152 : Option Addr) (c153 : Nat), g = (rg 56 [(3, (Value.pointer (some ⟨i31, 0, none⟩))), (5, (Value.slice A152 (t.1).length c153)), (8, (Value.pointer (some ⟨i156, 0, none⟩))), (17, (Value.slice A0 (p0).length c0)), (18, (Value.int .i64 ((p0).length : Nat))), (19, (Value.int .i64 x30)), (41, (Value.slice A157 ([r125, (IntKind.wrap .i64 (x91.2.1 - x91.1)), r141, x91.2.2.2]).length 4)), (42, (Value.int .i64 (([r125, (IntKind.wrap .i64 (x91.2.1 - x91.1)), r141, x91.2.2.2]).length : Nat))), (43, (Value.int .i64 t.2))]) ∧ Cx s0.next [] [] s0 s [(i156, AObj.box 51 [(Value.int .i64 x91.1), (Value.int .i64 x91.2.1), (Value.int .i64 x91.2.2.1), (Value.int .i64 x91.2.2.2)]), (i31, AObj.box 24 [(Value.int .i64 0), (Value.int .i64 0)])] [(On.mk (rI .i64) [r125, (IntKind.wrap .i64 (x91.2.1 - x91.1)), r141, x91.2.2.2] A157 4 3), (On.mk (rI .u8) t.1 A152 c153 5)] []
abbrev Ex21_2 (s0 : St) (p0 : (List (Int × Int × Int × Int))) (A0 : Option Addr) (c0 : Nat) (h0 : Sr (rP (rI .i64) (rP (rI .i64) (rP (rI .i64) (rI .i64)))) s0 A0 c0 p0) (i31 : Nat) (x30 : Int) (x91 : (Int × Int × Int × Int)) (A157 : Option Addr) (i156 : Nat) (r125 : Int) (r141 : Int) (t : ((List Int) × Int)) (e : X) (g : Regs) (s : St) : Prop := ∃ (A234 : Option Addr) (c235 : Nat), e = .exit 2 ∧ g = (rg 56 [(3, (Value.pointer (some ⟨i31, 0, none⟩))), (5, (Value.slice A234 (t.1).length c235)), (8, (Value.pointer (some ⟨i156, 0, none⟩))), (17, (Value.slice A0 (p0).length c0)), (18, (Value.int .i64 ((p0).length : Nat))), (19, (Value.int .i64 x30)), (41, (Value.slice A157 ([r125, (IntKind.wrap .i64 (x91.2.1 - x91.1)), r141, x91.2.2.2]).length 4)), (42, (Value.int .i64 (([r125, (IntKind.wrap .i64 (x91.2.1 - x91.1)), r141, x91.2.2.2]).length : Nat))), (43, (Value.int .i64 t.2)), (44, (Value.bool false))]) ∧ Cx s0.next [] [] s0 s [(i156, AObj.box 51 [(Value.int .i64 x91.1), (Value.int .i64 x91.2.1), (Value.int .i64 x91.2.2.1), (Value.int .i64 x91.2.2.2)]), (i31, AObj.box 24 [(Value.int .i64 0), (Value.int .i64 0)])] [(On.mk (rI .i64) [r125, (IntKind.wrap .i64 (x91.2.1 - x91.1)), r141, x91.2.2.2] A157 4 3), (On.mk (rI .u8) t.1 A234 c235 5)] []
theorem x21_2 (s0 : St) (p0 : (List (Int × Int × Int × Int))) (A0 : Option Addr) (c0 : Nat) (h0 : Sr (rP (rI .i64) (rP (rI .i64) (rP (rI .i64) (rI .i64)))) s0 A0 c0 p0) (i31 : Nat) (x30 : Int) (x91 : (Int × Int × Int × Int)) (A157 : Option Addr) (i156 : Nat) (r125 : Int) (r141 : Int) (t : ((List Int) × Int)) (e : X) (g : Regs) (s : St) (h : Ex21_2 s0 p0 A0 c0 h0 i31 x30 x91 A157 i156 r125 r141 t e g s) : e ≠ .normal := by
  obtain ⟨_, _, h, _⟩ := h
  rw [h]; intro hh; cases hh
def pb21_2 (n : Nat)  (x91 : (Int × Int × Int × Int)) (r125 : Int) (r141 : Int) (t : ((List Int) × Int)) : Option (((List Int) × Int) ⊕ ((List Int) × Int)) :=
  (if (decide ((t.2 : Int) < (([r125, (IntKind.wrap .i64 (x91.2.1 - x91.1)), r141, x91.2.2.2]).length : Nat))) then ((rd [r125, (IntKind.wrap .i64 (x91.2.1 - x91.1)), r141, x91.2.2.2] t.2 (fun x217 => ((p31 n t.1 x217).bind fun r224 => ((some (.inl (r224, (IntKind.wrap .i64 (t.2 + 1)))))))))) else (((some (.inr (t.1, t.2))))))
theorem b21_2 (n : Nat) (s0 : St) (p0 : (List (Int × Int × Int × Int))) (A0 : Option Addr) (c0 : Nat) (h0 : Sr (rP (rI .i64) (rP (rI .i64) (rP (rI .i64) (rI .i64)))) s0 A0 c0 p0) (i31 : Nat) (x30 : Int) (x91 : (Int × Int × Int × Int)) (A157 : Option Addr) (i156 : Nat) (r125 : Int) (r141 : Int) (t : ((List Int) × Int)) (g : Regs) (s214 : St) (K : Kont) (Q : Out → St → Prop) (h : Inv21_2 s0 p0 A0 c0 h0 i31 x30 x91 A157 i156 r125 r141 t g s214) :
    Rf (pb21_2 n x91 r125 r141 t) (fun r => ∀ e g' s', LK (Inv21_2 s0 p0 A0 c0 h0 i31 x30 x91 A157 i156 r125 r141) (Ex21_2 s0 p0 A0 c0 h0 i31 x30 x91 A157 i156 r125 r141) r e g' s' → Ev (K e g' s') Q) (fun _ => Q) (kBody E 21 n [.b, .b, .b, .b, .a, .b, .a, .a, .b, .b, .a, .a, .b, .a, .b, .a, .a] g s214 K) := by
  obtain ⟨y154, x155⟩ := t
  obtain ⟨A152, c153, rfl, C215⟩ := h
  rw [e21_body1 n]
  unfold pb21_2
  refine Rf.gen fun H Q hH hQ => ?_
  try dsimp only
  refine Rf.ite ?_ ?_
  · refine Rf.elt (r := (rI .i64)) (C215.srB m0) rfl fun x217 i218 o219 c220 r221 h222 => ?_
    obtain rfl := rI_elim r221
    refine Rf.ldI (h222.at 0 rfl) ?_
    refine Rf.callO 1 C215 rfl (t31 n y154 x217 s214 (C215.give m1)) ?_
    rintro r224 _ s225 ⟨A226, c227, rfl, h228⟩ h231
    have C232 : Cx s0.next [] [] s0 s225 [(i156, AObj.box 51 [(Value.int .i64 x91.1), (Value.int .i64 x91.2.1), (Value.int .i64 x91.2.2.1), (Value.int .i64 x91.2.2.2)]), (i31, AObj.box 24 [(Value.int .i64 0), (Value.int .i64 0)])] [(On.mk (rI .i64) [r125, (IntKind.wrap .i64 (x91.2.1 - x91.1)), r141, x91.2.2.2] A157 4 3), (On.mk (rI .u8) r224 A226 c227 5)] [] := h231 _ h228
    refine (Rf.asSl ?_)
    subst hH; subst hQ
    exact Rf.leaf fun h => h _ _ _ ⟨rfl, _, _, rfl, (C232.sub (List.Sublist.refl _) (List.Sublist.refl _) (List.Sublist.refl _))⟩
  · subst hH; subst hQ
    exact Rf.leaf fun h => h _ _ _ ⟨_, _, rfl, rfl, (C215.sub (List.Sublist.refl _) (List.Sublist.refl _) (List.Sublist.refl _))⟩
abbrev Inv21_1 (s0 : St) (p0 : (List (Int × Int × Int × Int))) (A0 : Option Addr) (c0 : Nat) (h0 : Sr (rP (rI .i64) (rP (rI .i64) (rP (rI .i64) (rI .i64)))) s0 A0 c0 p0) (i31 : Nat) (t : ((List Int) × Int × Int)) (g : Regs) (s : St) : Prop := ∃ (A26 : Option Addr) (c27 : Nat), g = (rg 56 [(3, (Value.pointer (some ⟨i31, 0, none⟩))), (5, (Value.slice A26 (t.1).length c27)), (6, (Value.int .i64 t.2.1)), (17, (Value.slice A0 (p0).length c0)), (18, (Value.int .i64 ((p0).length : Nat))), (19, (Value.int .i64 t.2.2))]) ∧ Cx s0.next [] [] s0 s [(i31, AObj.box 24 [(Value.int .i64 0), (Value.int .i64 0)])] [(On.mk (rI .u8) t.1 A26 c27 5)] []
abbrev Ex21_1 (s0 : St) (p0 : (List (Int × Int × Int × Int))) (A0 : Option Addr) (c0 : Nat) (h0 : Sr (rP (rI .i64) (rP (rI .i64) (rP (rI .i64) (rI .i64)))) s0 A0 c0 p0) (i31 : Nat) (t : ((List Int) × Int × Int)) (e : X) (g : Regs) (s : St) : Prop := ∃ (A301 : Option Addr) (c302 : Nat), e = .exit 0 ∧ g = (rg 56 [(3, (Value.pointer (some ⟨i31, 0, none⟩))), (5, (Value.slice A301 (t.1).length c302)), (6, (Value.int .i64 t.2.1)), (17, (Value.slice A0 (p0).length c0)), (18, (Value.int .i64 ((p0).length : Nat))), (19, (Value.int .i64 t.2.2)), (20, (Value.bool false))]) ∧ Cx s0.next [] [] s0 s [(i31, AObj.box 24 [(Value.int .i64 0), (Value.int .i64 0)])] [(On.mk (rI .u8) t.1 A301 c302 5)] []
theorem x21_1 (s0 : St) (p0 : (List (Int × Int × Int × Int))) (A0 : Option Addr) (c0 : Nat) (h0 : Sr (rP (rI .i64) (rP (rI .i64) (rP (rI .i64) (rI .i64)))) s0 A0 c0 p0) (i31 : Nat) (t : ((List Int) × Int × Int)) (e : X) (g : Regs) (s : St) (h : Ex21_1 s0 p0 A0 c0 h0 i31 t e g s) : e ≠ .normal := by
  obtain ⟨_, _, h, _⟩ := h
  rw [h]; intro hh; cases hh
def pb21_1 (n : Nat) (p0 : (List (Int × Int × Int × Int))) (t : ((List Int) × Int × Int)) : Option (((List Int) × Int × Int) ⊕ ((List Int) × Int × Int)) :=
  (if (decide ((t.2.2 : Int) < ((p0).length : Nat))) then ((rd p0 t.2.2 (fun x91 => ((p32 n (IntKind.wrap .i64 (x91.1 - t.2.1))).bind fun r125 => (p32 n (IntKind.wrap .i64 (x91.2.2.1 - x91.2.1))).bind fun r141 => ((loopP (pb21_2 n x91 r125 r141) n (t.1, 0)).bind fun t238 => (some (.inl (t238.1, x91.1, (IntKind.wrap .i64 (t.2.2 + 1)))))))))) else (((some (.inr (t.1, t.2.1, t.2.2))))))
theorem b21_1 (n : Nat) (s0 : St) (p0 : (List (Int × Int × Int × Int))) (A0 : Option Addr) (c0 : Nat) (h0 : Sr (rP (rI .i64) (rP (rI .i64) (rP (rI .i64) (rI .i64)))) s0 A0 c0 p0) (i31 : Nat) (t : ((List Int) × Int × Int)) (g : Regs) (s88 : St) (K : Kont) (Q : Out → St → Prop) (h : Inv21_1 s0 p0 A0 c0 h0 i31 t g s88) :
    Rf (pb21_1 n p0 t) (fun r => ∀ e g' s', LK (Inv21_1 s0 p0 A0 c0 h0 i31) (Ex21_1 s0 p0 A0 c0 h0 i31) r e g' s' → Ev (K e g' s') Q) (fun _ => Q) (kBody E 21 n [.b, .b, .b, .b, .a, .b, .a, .a] g s88 K) := by
  obtain ⟨y28, x29, x30⟩ := t
  obtain ⟨A26, c27, rfl, C89⟩ := h
  rw [e21_body0 n]
  unfold pb21_1
  refine Rf.gen fun H Q hH hQ => ?_
  try dsimp only
  refine Rf.ite ?_ ?_
  · refine Rf.elt (r := (rP (rI .i64) (rP (rI .i64) (rP (rI .i64) (rI .i64))))) (C89.sr0 rfl h0) rfl fun x91 i92 o93 c94 r95 h96 => ?_
    obtain ⟨c101, c102, rfl, r103, r104⟩ := rP_elim r95
    obtain rfl := rI_elim r103
    obtain ⟨c105, c106, rfl, r107, r108⟩ := rP_elim r104
    obtain rfl := rI_elim r107
    obtain ⟨c109, c110, rfl, r111, r112⟩ := rP_elim r108
    obtain rfl := rI_elim r111
    obtain rfl := rI_elim r112
    refine Rf.ldI (h96.at 0 rfl) ?_
    refine Rf.ldI (h96.at 1 rfl) ?_
    refine Rf.ldI (h96.at 2 rfl) ?_
    refine Rf.ldI (h96.at 3 rfl) ?_
    refine Rf.new C89 fun s117 (C118 : Cx s0.next [] [] s0 s117 [(s88.next, AObj.box 51 [(Value.int .i64 0), (Value.int .i64 0), (Value.int .i64 0), (Value.int .i64 0)]), (i31, AObj.box 24 [(Value.int .i64 0), (Value.int .i64 0)])] [(On.mk (rI .u8) y28 A26 c27 5)] []) => ?_
    refine Rf.sto 0 C118 rfl (by simp) rfl fun s120 (C121 : Cx s0.next [] [] s0 s120 [(s88.next, AObj.box 51 [(Value.int .i64 x91.1), (Value.int .i64 x91.2.1), (Value.int .i64 x91.2.2.1), (Value.int .i64 x91.2.2.2)]), (i31, AObj.box 24 [(Value.int .i64 0), (Value.int .i64 0)])] [(On.mk (rI .u8) y28 A26 c27 5)] []) => ?_
    refine Rf.ldI (C121.at m0 rfl) ?_
    refine Rf.callZ (t32 n (IntKind.wrap .i64 (x91.1 - x29)) St.bare) ?_
    rintro r125 _ s126 rfl
    refine (Rf.asI ?_)
    refine Rf.ldI (C121.at m0 rfl) ?_
    refine Rf.ldI (C121.at m0 rfl) ?_
    refine Rf.ldI (C121.at m0 rfl) ?_
    refine Rf.ldI (C121.at m0 rfl) ?_
    refine Rf.callZ (t32 n (IntKind.wrap .i64 (x91.2.2.1 - x91.2.1)) St.bare) ?_
    rintro r141 _ s142 rfl
    refine (Rf.asI ?_)
    refine Rf.ldI (C121.at m0 rfl) ?_
    refine Rf.newR (r := (rI .i64)) (xs := [r125, (IntKind.wrap .i64 (x91.2.1 - x91.1)), r141, x91.2.2.2]) C121 rfl (many.cons (c := [(Value.int .i64 r125)]) rI_mk (many.cons (c := [(Value.int .i64 (IntKind.wrap .i64 (x91.2.1 - x91.1)))]) rI_mk (many.cons (c := [(Value.int .i64 r141)]) rI_mk (many.cons (c := [(Value.int .i64 x91.2.2.2)]) rI_mk many.nil)))) fun s148 (C149 : Cx s0.next [] [] s0 s148 [(s88.next, AObj.box 51 [(Value.int .i64 x91.1), (Value.int .i64 x91.2.1), (Value.int .i64 x91.2.2.1), (Value.int .i64 x91.2.2.2)]), (i31, AObj.box 24 [(Value.int .i64 0), (Value.int .i64 0)])] [(On.mk (rI .i64) [r125, (IntKind.wrap .i64 (x91.2.1 - x91.1)), r141, x91.2.2.2] (some ⟨s120.next, 0, none⟩) 4 3), (On.mk (rI .u8) y28 A26 c27 5)] []) => ?_
    refine Rf.loop (Inv := Inv21_2 s0 p0 A0 c0 h0 i31 x30 x91 (some ⟨s120.next, 0, none⟩) s88.next r125 r141) (Ex := Ex21_2 s0 p0 A0 c0 h0 i31 x30 x91 (some ⟨s120.next, 0, none⟩) s88.next r125 r141) (x21_2 s0 p0 A0 c0 h0 i31 x30 x91 (some ⟨s120.next, 0, none⟩) s88.next r125 r141) (fun t g s K Q h => b21_2 n s0 p0 A0 c0 h0 i31 x30 x91 (some ⟨s120.next, 0, none⟩) s88.next r125 r141 t g s K Q h) n _ _ _ ⟨_, _, rfl, (C149.sub (List.Sublist.refl _) (List.Sublist.refl _) (List.Sublist.refl _))⟩ ?_
    intro t238 e g s295 h
    obtain ⟨A234, c235, rfl, rfl, C296⟩ := h
    rw [e21_after1_exit2 n]
    refine Rf.ldI (C296.at m0 rfl) ?_
    subst hH; subst hQ
    exact Rf.leaf fun h => h _ _ _ ⟨rfl, _, _, rfl, (C296.sub (List.Sublist.cons _ (List.Sublist.cons_cons _ List.Sublist.slnil)) (List.Sublist.cons _ (List.Sublist.cons_cons _ List.Sublist.slnil)) (List.Sublist.refl _))⟩
  · subst hH; subst hQ
    exact Rf.leaf fun h => h _ _ _ ⟨_, _, rfl, rfl, (C89.sub (List.Sublist.refl _) (List.Sublist.refl _) (List.Sublist.refl _))⟩
abbrev P21 (N : Nat) (X : List Nat) (r : ((List Int) × (Int × Int))) (v : Value) (s : St) : Prop := ∃ (A0 : Option Addr) (c0 : Nat), v = (Value.tuple #[(Value.slice A0 (r.1).length c0), (Value.agg #[(Value.int .i64 r.2.1), (Value.int .i64 r.2.2)])]) ∧ (On.mk (rI .u8) r.1 A0 c0 5).holds N X s
def p21 : Nat → (List (Int × Int × Int × Int)) → Option ((List Int) × (Int × Int))
  | 0, _ => none
  | n + 1, p0 => ((p39 n p0).bind fun r4 => ((if (!(((r4.1 : Int) == 0) && (((r4.2 : Int) == 0) && true))) then (((some (([] : (List Int)), (r4.1, r4.2))))) else ((((((loopP (pb21_1 n p0) n (([] : List Int), 0, 0)).bind fun t306 => (some (t306.1, (0, 0)))))))))))
theorem t21 (k : Nat) (p0 : (List (Int × Int × Int × Int))) (s0 : St) {A0 : Option Addr} {c0 : Nat} (h0 : Sr (rP (rI .i64) (rP (rI .i64) (rP (rI .i64) (rI .i64)))) s0 A0 c0 p0) :
    Rf (p21 k p0) (fun _ => True) (fun r => RtC s0.next [] [] s0 (P21 s0.next [] r)) (acall E k 21 [(Value.slice A0 (p0).length c0)] s0) := by
  cases k with
  | zero => exact Rf.none
  | succ n =>
    rw [e21 n]
    rw [p21]
    refine Rf.gen fun H Q hH hQ => ?_
    have C0 : Cx s0.next [] [] s0 s0 [] [] [] := Cx.start s0
    refine Rf.new C0 fun s1 (C2 : Cx s0.next [] [] s0 s1 [(s0.next, AObj.box 24 [(Value.int .i64 0), (Value.int .i64 0)])] [] []) => ?_
    refine Rf.call0 C2 (t39 n p0 s1 (C2.sr0 rfl h0)) ?_
    rintro r4 _ s5 rfl h8
    have C9 : Cx s0.next [] [] s0 s5 [(s0.next, AObj.box 24 [(Value.int .i64 0), (Value.int .i64 0)])] [] [] := h8 [] (by simp) List.Pairwise.nil
    refine (Rf.asAgg (Rf.unc (Rf.asI (Rf.unc (Rf.asI (Rf.unn ?_))))))
    refine Rf.new C9 fun s10 (C11 : Cx s0.next [] [] s0 s10 [(s5.next, AObj.box 24 [(Value.int .i64 0), (Value.int .i64 0)]), (s0.next, AObj.box 24 [(Value.int .i64 0), (Value.int .i64 0)])] [] []) => ?_
    refine Rf.sto 0 C11 rfl (by simp) rfl fun s13 (C14 : Cx s0.next [] [] s0 s13 [(s5.next, AObj.box 24 [(Value.int .i64 r4.1), (Value.int .i64 r4.2)]), (s0.next, AObj.box 24 [(Value.int .i64 0), (Value.int .i64 0)])] [] []) => ?_
    refine Rf.ldI (C14.at m0 rfl) ?_
    refine Rf.ldI (C14.at m0 rfl) ?_
    refine Rf.ite ?_ ?_
    · refine Rf.ldI (C14.at m0 rfl) ?_
      refine Rf.ldI (C14.at m0 rfl) ?_
      refine Rf.sto 1 C14 rfl (by simp) rfl fun s19 (C20 : Cx s0.next [] [] s0 s19 [(s5.next, AObj.box 24 [(Value.int .i64 r4.1), (Value.int .i64 r4.2)]), (s0.next, AObj.box 24 [(Value.int .i64 r4.1), (Value.int .i64 r4.2)])] [] []) => ?_
      refine Rf.ldI (C20.at m1 rfl) ?_
      refine Rf.ldI (C20.at m1 rfl) ?_
      subst hH; subst hQ
      exact Rf.leaf fun _ => Ev.done (Rf.ret C20 ⟨_, _, rfl, .inl ⟨rfl, rfl, rfl⟩⟩)
    · have C24 : Cx s0.next [] [] s0 s13 [(s5.next, AObj.box 24 [(Value.int .i64 r4.1), (Value.int .i64 r4.2)]), (s0.next, AObj.box 24 [(Value.int .i64 0), (Value.int .i64 0)])] [(On.mk (rI .u8) ([] : List Int) none 0 5)] [] := C14.addNil (rI .u8) 5
      refine Rf.loop (Inv := Inv21_1 s0 p0 A0 c0 h0 s0.next) (Ex := Ex21_1 s0 p0 A0 c0 h0 s0.next) (x21_1 s0 p0 A0 c0 h0 s0.next) (fun t g s K Q h => b21_1 n s0 p0 A0 c0 h0 s0.next t g s K Q h) n _ _ _ ⟨_, _, rfl, (C24.sub (List.Sublist.cons _ (List.Sublist.cons_cons _ List.Sublist.slnil)) (List.Sublist.refl _) (List.Sublist.refl _))⟩ ?_
      intro t306 e g s363 h
      obtain ⟨A301, c302, rfl, rfl, C364⟩ := h
      rw [e21_after0_exit0 n]
      refine Rf.sto 0 C364 rfl (by simp) rfl fun s365 (C366 : Cx s0.next [] [] s0 s365 [(s0.next, AObj.box 24 [(Value.int .i64 0), (Value.int .i64 0)])] [(On.mk (rI .u8) t306.1 A301 c302 5)] []) => ?_
      refine Rf.ldI (C366.at m0 rfl) ?_
      refine Rf.ldI (C366.at m0 rfl) ?_
      subst hH; subst hQ
      exact Rf.leaf fun _ => Ev.done (Rf.ret C366 ⟨_, _, rfl, C366.own _ m0⟩)
-- 41 "brindlewood/tables.Find$1"
abbrev P41 (N : Nat) (X : List Nat) (r : Bool) (v : Value) (s : St) : Prop := v = (Value.bool r)
def p41 : Nat → (Int × Int × Int × Int) → Int → Option Bool
  | 0, _, _ => none
  | n + 1, p0, p1 => (pj (fun (b13 : Bool) => some b13) (fun J12 => if (decide ((p0.1 : Int) ≤ p1)) then ((J12 (decide ((p1 : Int) < p0.2.1)))) else ((J12 false))))
theorem t41 (k : Nat) (p0 : (Int × Int × Int × Int)) (p1 : Int) (s0 : St) {b1 : Nat} (h1 : s0.get b1 = some (AObj.box 3 [(Value.int .i64 p1)])) (g1 : b1 < s0.next) :
    Rf (p41 k p0 p1) (fun _ => True) (fun r => RtC s0.next [] [] s0 (P41 s0.next [] r)) (acall E k 41 [(Value.agg #[(Value.int .i64 p0.1), (Value.int .i64 p0.2.1), (Value.int .i64 p0.2.2.1), (Value.int .i64 p0.2.2.2)]), (Value.pointer (some ⟨b1, 0, none⟩))] s0) := by
  cases k with
  | zero => exact Rf.none
  | succ n =>
    rw [e41 n]
    rw [p41]
    refine Rf.gen fun H Q hH hQ => ?_
    have C0 : Cx s0.next [] [] s0 s0 [] [] [] := Cx.start s0
    refine Rf.new C0 fun s1 (C2 : Cx s0.next [] [] s0 s1 [(s0.next, AObj.box 51 [(Value.int .i64 p0.1), (Value.int .i64 p0.2.1), (Value.int .i64 p0.2.2.1), (Value.int .i64 p0.2.2.2)])] [] []) => ?_
    refine Rf.pj fun J12 J12' hJ12 hJ12' => ?_
    have J12h : ∀ (b13 : Bool) (_ : Cx s0.next [] [] s0 s1 [] [] []), Rf (J12 b13) H Q (J12' b13) := by
      subst hJ12
      subst hJ12'
      intro b13 C15
      subst hH; subst hQ
      exact Rf.leaf fun _ => Ev.done (Rf.ret C15 rfl)
    clear hJ12 hJ12'
    refine Rf.ldI (C2.at m0 rfl) ?_
    refine Rf.ldI (C2.at0 h1 g1 (by simp) rfl) ?_
    refine Rf.ite ?_ ?_
    · refine Rf.ldI (C2.at0 h1 g1 (by simp) rfl) ?_
      refine Rf.ldI (C2.at m0 rfl) ?_
      exact J12h (decide ((p1 : Int) < p0.2.1)) (C2.sub (List.Sublist.cons _ List.Sublist.slnil) (List.Sublist.refl _) (List.Sublist.refl _))
    · exact J12h false (C2.sub (List.Sublist.cons _ List.Sublist.slnil) (List.Sublist.refl _) (List.Sublist.refl _))
-- 42 "brindlewood/tables.Shadowed$1"
abbrev P42 (N : Nat) (X : List Nat) (r : Bool) (v : Value) (s : St) : Prop := v = (Value.bool r)
def p42 : Nat → (Int × Int × Int × Int) → Int → Option Bool
  | 0, _, _ => none
  | n + 1, p0, p1 => (pj (fun (b13 : Bool) => some b13) (fun J12 => if (decide ((p0.1 : Int) ≤ p1)) then ((J12 (decide ((p1 : Int) < p0.2.1)))) else ((J12 false))))
theorem t42 (k : Nat) (p0 : (Int × Int × Int × Int)) (p1 : Int) (s0 : St) {b1 : Nat} (h1 : s0.get b1 = some (AObj.box 3 [(Value.int .i64 p1)])) (g1 : b1 < s0.next) :
    Rf (p42 k p0 p1) (fun _ => True) (fun r => RtC s0.next [] [] s0 (P42 s0.next [] r)) (acall E k 42 [(Value.agg #[(Value.int .i64 p0.1), (Value.int .i64 p0.2.1), (Value.int .i64 p0.2.2.1), (Value.int .i64 p0.2.2.2)]), (Value.pointer (some ⟨b1, 0, none⟩))] s0) := by
  cases k with
  | zero => exact Rf.none
  | succ n =>
    rw [e42 n]
    rw [p42]
    refine Rf.gen fun H Q hH hQ => ?_
    have C0 : Cx s0.next [] [] s0 s0 [] [] [] := Cx.start s0
    refine Rf.new C0 fun s1 (C2 : Cx s0.next [] [] s0 s1 [(s0.next, AObj.box 51 [(Value.int .i64 p0.1), (Value.int .i64 p0.2.1), (Value.int .i64 p0.2.2.1), (Value.int .i64 p0.2.2.2)])] [] []) => ?_
    refine Rf.pj fun J12 J12' hJ12 hJ12' => ?_
    have J12h : ∀ (b13 : Bool) (_ : Cx s0.next [] [] s0 s1 [] [] []), Rf (J12 b13) H Q (J12' b13) := by
      subst hJ12
      subst hJ12'
      intro b13 C15
      subst hH; subst hQ
      exact Rf.leaf fun _ => Ev.done (Rf.ret C15 rfl)
    clear hJ12 hJ12'
    refine Rf.ldI (C2.at m0 rfl) ?_
    refine Rf.ldI (C2.at0 h1 g1 (by simp) rfl) ?_
    refine Rf.ite ?_ ?_
    · refine Rf.ldI (C2.at0 h1 g1 (by simp) rfl) ?_
      refine Rf.ldI (C2.at m0 rfl) ?_
      exact J12h (decide ((p1 : Int) < p0.2.1)) (C2.sub (List.Sublist.cons _ List.Sublist.slnil) (List.Sublist.refl _) (List.Sublist.refl _))
    · exact J12h false (C2.sub (List.Sublist.cons _ List.Sublist.slnil) (List.Sublist.refl _) (List.Sublist.refl _))
-- 40_41 "slices.IndexFunc[[]brindlewood/api.Catch,brindlewood/api.Catch]"
abbrev Inv40_41_1 (s0 : St) (p0 : (List (Int × Int × Int × Int))) (p2 : Int) (A0 : Option Addr) (c0 : Nat) (b2 : Nat) (h0 : Sr (rP (rI .i64) (rP (rI .i64) (rP (rI .i64) (rI .i64)))) s0 A0 c0 p0) (h2 : s0.get b2 = some (AObj.box 3 [(Value.int .i64 p2)])) (g2 : b2 < s0.next)  (t : Int) (g : Regs) (s : St) : Prop := g = (rg 19 [(0, (Value.slice A0 (p0).length c0)), (1, (Value.func (.func 41) #[] #[(Value.pointer (some ⟨b2, 0, none⟩))])), (7, (Value.int .i64 ((p0).length : Nat))), (8, (Value.int .i64 t))]) ∧ Cx s0.next [] [] s0 s [] [] []
abbrev Ex40_41_1 (s0 : St) (p0 : (List (Int × Int × Int × Int))) (p2 : Int) (A0 : Option Addr) (c0 : Nat) (b2 : Nat) (h0 : Sr (rP (rI .i64) (rP (rI .i64) (rP (rI .i64) (rI .i64)))) s0 A0 c0 p0) (h2 : s0.get b2 = some (AObj.box 3 [(Value.int .i64 p2)])) (g2 : b2 < s0.next)  (t : (Int ⊕ Int)) (e : X) (g : Regs) (s : St) : Prop := match t with
  | (.inl t) => e = .exit 0 ∧ g = (rg 19 [(0, (Value.slice A0 (p0).length c0)), (1, (Value.func (.func 41) #[] #[(Value.pointer (some ⟨b2, 0, none⟩))])), (7, (Value.int .i64 ((p0).length : Nat))), (8, (Value.int .i64 t)), (9, (Value.bool false))]) ∧ Cx s0.next [] [] s0 s [] [] []
  | (.inr t) => e = .ret ∧ g = (rg 19 [(4, (Value.int .i64 t))]) ∧ Cx s0.next [] [] s0 s [] [] []
theorem x40_41_1 (s0 : St) (p0 : (List (Int × Int × Int × Int))) (p2 : Int) (A0 : Option Addr) (c0 : Nat) (b2 : Nat) (h0 : Sr (rP (rI .i64) (rP (rI .i64) (rP (rI .i64) (rI .i64)))) s0 A0 c0 p0) (h2 : s0.get b2 = some (AObj.box 3 [(Value.int .i64 p2)])) (g2 : b2 < s0.next)  (t : (Int ⊕ Int)) (e : X) (g : Regs) (s : St) (h : Ex40_41_1 s0 p0 p2 A0 c0 b2 h0 h2 g2  t e g s) : e ≠ .normal := by
  rcases t with t | t
  · obtain ⟨h, _⟩ := h
    rw [h]; intro hh; cases hh
  · obtain ⟨h, _⟩ := h
    rw [h]; intro hh; cases hh
def pb40_41_1 (n : Nat) (p0 : (List (Int × Int × Int × Int))) (p2 : Int) (t : Int) : Option (Int ⊕ (Int ⊕ Int)) :=
  (if (decide ((t : Int) < ((p0).length : Nat))) then (((rd p0 t (fun x25 => (p41 n (x25.1, x25.2.1, x25.2.2.1, x25.2.2.2) p2).bind fun r51 => (if r51 then ((((some (.inr (.inr t)))))) else (((some (.inl (IntKind.wrap .i64 (t + 1))))))))))) else (((some (.inr (.inl t))))))
theorem b40_41_1 (n : Nat) (s0 : St) (p0 : (List (Int × Int × Int × Int))) (p2 : Int) (A0 : Option Addr) (c0 : Nat) (b2 : Nat) (h0 : Sr (rP (rI .i64) (rP (rI .i64) (rP (rI .i64) (rI .i64)))) s0 A0 c0 p0) (h2 : s0.get b2 = some (AObj.box 3 [(Value.int .i64 p2)])) (g2 : b2 < s0.next)  (x1 : Int) (g : Regs) (s22 : St) (K : Kont) (Q : Out → St → Prop) (h : Inv40_41_1 s0 p0 p2 A0 c0 b2 h0 h2 g2  x1 g s22) :
    Rf (pb40_41_1 n p0 p2 x1) (fun r => ∀ e g' s', LK (Inv40_41_1 s0 p0 p2 A0 c0 b2 h0 h2 g2 ) (Ex40_41_1 s0 p0 p2 A0 c0 b2 h0 h2 g2 ) r e g' s' → Ev (K e g' s') Q) (fun _ => Q) (kBody E 40 n [.b, .a, .b, .a, .a] g s22 K) := by
  obtain ⟨rfl, C23⟩ := h
  rw [e40_41_body0 n]
  unfold pb40_41_1
  refine Rf.gen fun H Q hH hQ => ?_
  refine Rf.ite ?_ ?_
  · refine Rf.elt (r := (rP (rI .i64) (rP (rI .i64) (rP (rI .i64) (rI .i64))))) (C23.sr0 rfl h0) rfl fun x25 i26 o27 c28 r29 h30 => ?_
    obtain ⟨c35, c36, rfl, r37, r38⟩ := rP_elim r29
    obtain rfl := rI_elim r37
    obtain ⟨c39, c40, rfl, r41, r42⟩ := rP_elim r38
    obtain rfl := rI_elim r41
    obtain ⟨c43, c44, rfl, r45, r46⟩ := rP_elim r42
    obtain rfl := rI_elim r45
    obtain rfl := rI_elim r46
    refine Rf.ldI (h30.at 0 rfl) ?_
    refine Rf.ldI (h30.at 1 rfl) ?_
    refine Rf.ldI (h30.at 2 rfl) ?_
    refine Rf.ldI (h30.at 3 rfl) ?_
    refine Rf.call0 C23 (t41 n (x25.1, x25.2.1, x25.2.2.1, x25.2.2.2) p2 s22 (C23.get0 h2 g2 (by simp)) (C23.lt0 g2)) ?_
    rintro r51 _ s52 rfl h54
    have C55 : Cx s0.next [] [] s0 s52 [] [] [] := h54 [] (by simp) List.Pairwise.nil
    refine (Rf.asB ?_)
    refine Rf.ite ?_ ?_
    · subst hH; subst hQ
      exact Rf.leaf fun h => h _ _ _ ⟨rfl, rfl, (C55.sub (List.Sublist.refl _) (List.Sublist.refl _) (List.Sublist.refl _))⟩
    · subst hH; subst hQ
      exact Rf.leaf fun h => h _ _ _ ⟨rfl, rfl, (C55.sub (List.Sublist.refl _) (List.Sublist.refl _) (List.Sublist.refl _))⟩
  · subst hH; subst hQ
    exact Rf.leaf fun h => h _ _ _ ⟨rfl, rfl, (C23.sub (List.Sublist.refl _) (List.Sublist.refl _) (List.Sublist.refl _))⟩
abbrev P40_41 (N : Nat) (X : List Nat) (r : Int) (v : Value) (s : St) : Prop := v = (Value.int .i64 r)
def p40_41 : Nat → (List (Int × Int × Int × Int)) → Int → Option Int
  | 0, _, _ => none
  | n + 1, p0, p2 => (((loopP (pb40_41_1 n p0 p2) n 0).bind fun t103 => match t103 with | (.inl t58) => ((some (-1))) | (.inr t81) => (some t81)))
theorem t40_41 (k : Nat) (p0 : (List (Int × Int × Int × Int))) (p2 : Int) (s0 : St) {A0 : Option Addr} {c0 : Nat} {b2 : Nat} (h0 : Sr (rP (rI .i64) (rP (rI .i64) (rP (rI .i64) (rI .i64)))) s0 A0 c0 p0) (h2 : s0.get b2 = some (AObj.box 3 [(Value.int .i64 p2)])) (g2 : b2 < s0.next) :
    Rf (p40_41 k p0 p2) (fun _ => True) (fun r => RtC s0.next [] [] s0 (P40_41 s0.next [] r)) (acall E k 40 [(Value.slice A0 (p0).length c0), (Value.func (.func 41) #[] #[(Value.pointer (some ⟨b2, 0, none⟩))])] s0) := by
  cases k with
  | zero => exact Rf.none
  | succ n =>
    rw [e40_41 n]
    rw [p40_41]
    refine Rf.gen fun H Q hH hQ => ?_
    have C0 : Cx s0.next [] [] s0 s0 [] [] [] := Cx.start s0
    refine Rf.loop (Inv := Inv40_41_1 s0 p0 p2 A0 c0 b2 h0 h2 g2 ) (Ex := Ex40_41_1 s0 p0 p2 A0 c0 b2 h0 h2 g2 ) (x40_41_1 s0 p0 p2 A0 c0 b2 h0 h2 g2 ) (fun t g s K Q h => b40_41_1 n s0 p0 p2 A0 c0 b2 h0 h2 g2  t g s K Q h) n _ _ _ ⟨rfl, (C0.sub (List.Sublist.refl _) (List.Sublist.refl _) (List.Sublist.refl _))⟩ ?_
    intro t e g s h
    rcases t with t58 | t81
    · generalize s = s79 at h ⊢
      obtain ⟨rfl, rfl, C80⟩ := h
      rw [e40_41_after0_exit0 n]
      subst hH; subst hQ
      exact Rf.leaf fun _ => Ev.done (Rf.ret C80 rfl)
    · generalize s = s101 at h ⊢
      obtain ⟨rfl, rfl, C102⟩ := h
      rw [e40_41_after0_ret n]
      subst hH; subst hQ
      exact Rf.leaf fun _ => Ev.done (Rf.ret C102 rfl)
-- 40_42 "slices.IndexFunc[[]brindlewood/api.Catch,brindlewood/api.Catch]"
abbrev Inv40_42_1 (s0 : St) (p0 : (List (Int × Int × Int × Int))) (p2 : Int) (A0 : Option Addr) (c0 : Nat) (b2 : Nat) (h0 : Sr (rP (rI .i64) (rP (rI .i64) (rP (rI .i64) (rI .i64)))) s0 A0 c0 p0) (h2 : s0.get b2 = some (AObj.box 3 [(Value.int .i64 p2)])) (g2 : b2 < s0.next)  (t : Int) (g : Regs) (s : St) : Prop := g = (rg 19 [(0, (Value.slice A0 (p0).length c0)), (1, (Value.func (.func 42) #[] #[(Value.pointer (some ⟨b2, 0, none⟩))])), (7, (Value.int .i64 ((p0).length : Nat))), (8, (Value.int .i64 t))]) ∧ Cx s0.next [] [] s0 s [] [] []
abbrev Ex40_42_1 (s0 : St) (p0 : (List (Int × Int × Int × Int))) (p2 : Int) (A0 : Option Addr) (c0 : Nat) (b2 : Nat) (h0 : Sr (rP (rI .i64) (rP (rI .i64) (rP (rI .i64) (rI .i64)))) s0 A0 c0 p0) (h2 : s0.get b2 = some (AObj.box 3 [(Value.int .i64 p2)])) (g2 : b2 < s0.next)  (t : (Int ⊕ Int)) (e : X) (g : Regs) (s : St) : Prop := match t with
  | (.inl t) => e = .exit 0 ∧ g = (rg 19 [(0, (Value.slice A0 (p0).length c0)), (1, (Value.func (.func 42) #[] #[(Value.pointer (some ⟨b2, 0, none⟩))])), (7, (Value.int .i64 ((p0).length : Nat))), (8, (Value.int .i64 t)), (9, (Value.bool false))]) ∧ Cx s0.next [] [] s0 s [] [] []
  | (.inr t) => e = .ret ∧ g = (rg 19 [(4, (Value.int .i64 t))]) ∧ Cx s0.next [] [] s0 s [] [] []
theorem x40_42_1 (s0 : St) (p0 : (List (Int × Int × Int × Int))) (p2 : Int) (A0 : Option Addr) (c0 : Nat) (b2 : Nat) (h0 : Sr (rP (rI .i64) (rP (rI .i64) (rP (rI .i64) (rI .i64)))) s0 A0 c0 p0) (h2 : s0.get b2 = some (AObj.box 3 [(Value.int .i64 p2)])) (g2 : b2 < s0.next)  (t : (Int ⊕ Int)) (e : X) (g : Regs) (s : St) (h : Ex40_42_1 s0 p0 p2 A0 c0 b2 h0 h2 g2  t e g s) : e ≠ .normal := by
  rcases t with t | t
  · obtain ⟨h, _⟩ := h
    rw [h]; intro hh; cases hh
  · obtain ⟨h, _⟩ := h
    rw [h]; intro hh; cases hh
def pb40_42_1 (n : Nat) (p0 : (List (Int × Int × Int × Int))) (p2 : Int) (t : Int) : Option (Int ⊕ (Int ⊕ Int)) :=
  (if (decide ((t : Int) < ((p0).length : Nat))) then (((rd p0 t (fun x25 => (p42 n (x25.1, x25.2.1, x25.2.2.1, x25.2.2.2) p2).bind fun r51 => (if r51 then ((((some (.inr (.inr t)))))) else (((some (.inl (IntKind.wrap .i64 (t + 1))))))))))) else (((some (.inr (.inl t))))))
theorem b40_42_1 (n : Nat) (s0 : St) (p0 : (List (Int × Int × Int × Int))) (p2 : Int) (A0 : Option Addr) (c0 : Nat) (b2 : Nat) (h0 : Sr (rP (rI .i64) (rP (rI .i64) (rP (rI .i64) (rI .i64)))) s0 A0 c0 p0) (h2 : s0.get b2 = some (AObj.box 3 [(Value.int .i64 p2)])) (g2 : b2 < s0.next)  (x1 : Int) (g : Regs) (s22 : St) (K : Kont) (Q : Out → St → Prop) (h : Inv40_42_1 s0 p0 p2 A0 c0 b2 h0 h2 g2  x1 g s22) :
    Rf (pb40_42_1 n p0 p2 x1) (fun r => ∀ e g' s', LK (Inv40_42_1 s0 p0 p2 A0 c0 b2 h0 h2 g2 ) (Ex40_42_1 s0 p0 p2 A0 c0 b2 h0 h2 g2 ) r e g' s' → Ev (K e g' s') Q) (fun _ => Q) (kBody E 40 n [.b, .a, .b, .a, .a] g s22 K) := by
  obtain ⟨rfl, C23⟩ := h
  rw [e40_42_body0 n]
  unfold pb40_42_1
  refine Rf.gen fun H Q hH hQ => ?_
  refine Rf.ite ?_ ?_
  · refine Rf.elt (r := (rP (rI .i64) (rP (rI .i64) (rP (rI .i64) (rI .i64))))) (C23.sr0 rfl h0) rfl fun x25 i26 o27 c28 r29 h30 => ?_
    obtain ⟨c35, c36, rfl, r37, r38⟩ := rP_elim r29
    obtain rfl := rI_elim r37
    obtain ⟨c39, c40, rfl, r41, r42⟩ := rP_elim r38
    obtain rfl := rI_elim r41
    obtain ⟨c43, c44, rfl, r45, r46⟩ := rP_elim r42
    obtain rfl := rI_elim r45
    obtain rfl := rI_elim r46
    refine Rf.ldI (h30.at 0 rfl) ?_
    refine Rf.ldI (h30.at 1 rfl) ?_
    refine Rf.ldI (h30.at 2 rfl) ?_
    refine Rf.ldI (h30.at 3 rfl) ?_
    refine Rf.call0 C23 (t42 n (x25.1, x25.2.1, x25.2.2.1, x25.2.2.2) p2 s22 (C23.get0 h2 g2 (by simp)) (C23.lt0 g2)) ?_
    rintro r51 _ s52 rfl h54
    have C55 : Cx s0.next [] [] s0 s52 [] [] [] := h54 [] (by simp) List.Pairwise.nil
    refine (Rf.asB ?_)
    refine Rf.ite ?_ ?_
    · subst hH; subst hQ
      exact Rf.leaf fun h => h _ _ _ ⟨rfl, rfl, (C55.sub (List.Sublist.refl _) (List.Sublist.refl _) (List.Sublist.refl _))⟩
    · subst hH; subst hQ
      exact Rf.leaf fun h => h _ _ _ ⟨rfl, rfl, (C55.sub (List.Sublist.refl _) (List.Sublist.refl _) (List.Sublist.refl _))⟩
  · subst hH; subst hQ
    exact Rf.leaf fun h => h _ _ _ ⟨rfl, rfl, (C23.sub (List.Sublist.refl _) (List.Sublist.refl _) (List.Sublist.refl _))⟩
abbrev P40_42 (N : Nat) (X : List Nat) (r : Int) (v : Value) (s : St) : Prop := v = (Value.int .i64 r)
def p40_42 : Nat → (List (Int × Int × Int × Int)) → Int → Option Int
  | 0, _, _ => none
  | n + 1, p0, p2 => (((loopP (pb40_42_1 n p0 p2) n 0).bind fun t103 => match t103 with | (.inl t58) => ((some (-1))) | (.inr t81) => (some t81)))
theorem t40_42 (k : Nat) (p0 : (List (Int × Int × Int × Int))) (p2 : Int) (s0 : St) {A0 : Option Addr} {c0 : Nat} {b2 : Nat} (h0 : Sr (rP (rI .i64) (rP (rI .i64) (rP (rI .i64) (rI .i64)))) s0 A0 c0 p0) (h2 : s0.get b2 = some (AObj.box 3 [(Value.int .i64 p2)])) (g2 : b2 < s0.next) :
    Rf (p40_42 k p0 p2) (fun _ => True) (fun r => RtC s0.next [] [] s0 (P40_42 s0.next [] r)) (acall E k 40 [(Value.slice A0 (p0).length c0), (Value.func (.func 42) #[] #[(Value.pointer (some ⟨b2, 0, none⟩))])] s0) := by
  cases k with
  | zero => exact Rf.none
  | succ n =>
    rw [e40_42 n]
    rw [p40_42]
    refine Rf.gen fun H Q hH hQ => ?_
    have C0 : Cx s0.next [] [] s0 s0 [] [] [] := Cx.start s0
    refine Rf.loop (Inv := Inv40_42_1 s0 p0 p2 A0 c0 b2 h0 h2 g2 ) (Ex := Ex40_42_1 s0 p0 p2 A0 c0 b2 h0 h2 g2 ) (x40_42_1 s0 p0 p2 A0 c0 b2 h0 h2 g2 ) (fun t g s K Q h => b40_42_1 n s0 p0 p2 A0 c0 b2 h0 h2 g2  t g s K Q h) n _ _ _ ⟨rfl, (C0.sub (List.Sublist.refl _) (List.Sublist.refl _) (List.Sublist.refl _))⟩ ?_
    intro t e g s h
    rcases t with t58 | t81
    · generalize s = s79 at h ⊢
      obtain ⟨rfl, rfl, C80⟩ := h
      rw [e40_42_after0_exit0 n]
      subst hH; subst hQ
      exact Rf.leaf fun _ => Ev.done (Rf.ret C80 rfl)
    · generalize s = s101 at h ⊢
      obtain ⟨rfl, rfl, C102⟩ := h
      rw [e40_42_after0_ret n]
      subst hH; subst hQ
      exact Rf.leaf fun _ => Ev.done (Rf.ret C102 rfl)
-- 22 "brindlewood/tables.Find"
abbrev P22 (N : Nat) (X : List Nat) (r : (Int × (Int × Int))) (v : Value) (s : St) : Prop := v = (Value.tuple #[(Value.int .i64 r.1), (Value.agg #[(Value.int .i64 r.2.1), (Value.int .i64 r.2.2)])])
def p22 : Nat → (List (Int × Int × Int × Int)) → Int → Option (Int × (Int × Int))
  | 0, _, _ => none
  | n + 1, p0, p1 => ((p39 n p0).bind fun r7 => ((if (!(((r7.1 : Int) == 0) && (((r7.2 : Int) == 0) && true))) then (((some (0, (r7.1, r7.2))))) else (((p40_41 n p0 p1).bind fun r26 => (some (r26, (0, 0))))))))
theorem t22 (k : Nat) (p0 : (List (Int × Int × Int × Int))) (p1 : Int) (s0 : St) {A0 : Option Addr} {c0 : Nat} (h0 : Sr (rP (rI .i64) (rP (rI .i64) (rP (rI .i64) (rI .i64)))) s0 A0 c0 p0) :
    Rf (p22 k p0 p1) (fun _ => True) (fun r => RtC s0.next [] [] s0 (P22 s0.next [] r)) (acall E k 22 [(Value.slice A0 (p0).length c0), (Value.int .i64 p1)] s0) := by
  cases k with
  | zero => exact Rf.none
  | succ n =>
    rw [e22 n]
    rw [p22]
    refine Rf.gen fun H Q hH hQ => ?_
    have C0 : Cx s0.next [] [] s0 s0 [] [] [] := Cx.start s0
    refine Rf.new C0 fun s1 (C2 : Cx s0.next [] [] s0 s1 [(s0.next, AObj.box 3 [(Value.int .i64 p1)])] [] []) => ?_
    refine Rf.new C2 fun s4 (C5 : Cx s0.next [] [] s0 s4 [(s1.next, AObj.box 24 [(Value.int .i64 0), (Value.int .i64 0)]), (s0.next, AObj.box 3 [(Value.int .i64 p1)])] [] []) => ?_
    refine Rf.call0 C5 (t39 n p0 s4 (C5.sr0 rfl h0)) ?_
    rintro r7 _ s8 rfl h11
    have C12 : Cx s0.next [] [] s0 s8 [(s1.next, AObj.box 24 [(Value.int .i64 0), (Value.int .i64 0)]), (s0.next, AObj.box 3 [(Value.int .i64 p1)])] [] [] := h11 [] (by simp) List.Pairwise.nil
    refine (Rf.asAgg (Rf.unc (Rf.asI (Rf.unc (Rf.asI (Rf.unn ?_))))))
    refine Rf.new C12 fun s13 (C14 : Cx s0.next [] [] s0 s13 [(s8.next, AObj.box 24 [(Value.int .i64 0), (Value.int .i64 0)]), (s1.next, AObj.box 24 [(Value.int .i64 0), (Value.int .i64 0)]), (s0.next, AObj.box 3 [(Value.int .i64 p1)])] [] []) => ?_
    refine Rf.sto 0 C14 rfl (by simp) rfl fun s16 (C17 : Cx s0.next [] [] s0 s16 [(s8.next, AObj.box 24 [(Value.int .i64 r7.1), (Value.int .i64 r7.2)]), (s1.next, AObj.box 24 [(Value.int .i64 0), (Value.int .i64 0)]), (s0.next, AObj.box 3 [(Value.int .i64 p1)])] [] []) => ?_
    refine Rf.ldI (C17.at m0 rfl) ?_
    refine Rf.ldI (C17.at m0 rfl) ?_
    refine Rf.ite ?_ ?_
    · refine Rf.ldI (C17.at m0 rfl) ?_
      refine Rf.ldI (C17.at m0 rfl) ?_
      refine Rf.sto 1 C17 rfl (by simp) rfl fun s22 (C23 : Cx s0.next [] [] s0 s22 [(s8.next, AObj.box 24 [(Value.int .i64 r7.1), (Value.int .i64 r7.2)]), (s1.next, AObj.box 24 [(Value.int .i64 r7.1), (Value.int .i64 r7.2)]), (s0.next, AObj.box 3 [(Value.int .i64 p1)])] [] []) => ?_
      refine Rf.ldI (C23.at m1 rfl) ?_
      refine Rf.ldI (C23.at m1 rfl) ?_
      subst hH; subst hQ
      exact Rf.leaf fun _ => Ev.done (Rf.ret C23 rfl)
    · refine Rf.call0 C17 (t40_41 n p0 p1 s16 (C17.sr0 rfl h0) (C17.obj _ m2).1 (C17.obj _ m2).2.1) ?_
      rintro r26 _ s27 rfl h29
      have C30 : Cx s0.next [] [] s0 s27 [(s8.next, AObj.box 24 [(Value.int .i64 r7.1), (Value.int .i64 r7.2)]), (s1.next, AObj.box 24 [(Value.int .i64 0), (Value.int .i64 0)]), (s0.next, AObj.box 3 [(Value.int .i64 p1)])] [] [] := h29 [] (by simp) List.Pairwise.nil
      refine (Rf.asI ?_)
      refine Rf.sto 1 C30 rfl (by simp) rfl fun s31 (C32 : Cx s0.next [] [] s0 s31 [(s8.next, AObj.box 24 [(Value.int .i64 r7.1), (Value.int .i64 r7.2)]), (s1.next, AObj.box 24 [(Value.int .i64 0), (Value.int .i64 0)]), (s0.next, AObj.box 3 [(Value.int .i64 p1)])] [] []) => ?_
      refine Rf.ldI (C32.at m1 rfl) ?_
      refine Rf.ldI (C32.at m1 rfl) ?_
      subst hH; subst hQ
      exact Rf.leaf fun _ => Ev.done (Rf.ret C32 rfl)
-- 23 "brindlewood/tables.Shadowed"
abbrev Inv23_2 (s0 : St) (p0 : (List (Int × Int × Int × Int))) (A0 : Option Addr) (c0 : Nat) (h0 : Sr (rP (rI .i64) (rP (rI .i64) (rP (rI .i64) (rI .i64)))) s0 A0 c0 p0) (A26 : Option Addr) (c27 : Nat) (i30 : Nat) (x29 : Int) (x91 : (Int × Int × Int × Int)) (y28 : (List Int)) (i132 : Nat) (i133 : Nat) (t : (Int × Bool)) (g : Regs) (s : St) : Prop := ∃ (w194 : Value) (w195 : Value), g = (rg 57 [(0, (Value.slice A0 (p0).length c0)), (3, (Value.pointer (some ⟨i30, 0, none⟩))), (5, (Value.slice A26 (y28).length c27)), (6, (Value.int .i64 x29)), (7, (Value.pointer (some ⟨i133, 0, none⟩))), (8, (Value.pointer (some ⟨i132, 0, none⟩))), (9, (Value.bool t.2)), (10, w194), (17, (Value.slice A0 (p0).length c0)), (18, (Value.int .i64 ((p0).length : Nat))), (19, (Value.int .i64 x29)), (40, w195)]) ∧ Cx s0.next [] [] s0 s [(i132, AObj.box 3 [(Value.int .i64 t.1)]), (i133, AObj.box 51 [(Value.int .i64 x91.1), (Value.int .i64 x91.2.1), (Value.int .i64 x91.2.2.1), (Value.int .i64 x91.2.2.2)]), (i30, AObj.box 24 [(Value.int .i64 0), (Value.int .i64 0)])] [(On.mk (rI .i64) y28 A26 c27 3)] []
abbrev Ex23_2 (s0 : St) (p0 : (List (Int × Int × Int × Int))) (A0 : Option Addr) (c0 : Nat) (h0 : Sr (rP (rI .i64) (rP (rI .i64) (rP (rI .i64) (rI .i64)))) s0 A0 c0 p0) (A26 : Option Addr) (c27 : Nat) (i30 : Nat) (x29 : Int) (x91 : (Int × Int × Int × Int)) (y28 : (List Int)) (i132 : Nat) (i133 : Nat) (t : Int) (e : X) (g : Regs) (s : St) : Prop := e = .exit 2 ∧ g = (rg 57 [(0, (Value.slice A0 (p0).length c0)), (3, (Value.pointer (some ⟨i30, 0, none⟩))), (5, (Value.slice A26 (y28).length c27)), (6, (Value.int .i64 x29)), (7, (Value.pointer (some ⟨i133, 0, none⟩))), (8, (Value.pointer (some ⟨i132, 0, none⟩))), (17, (Value.slice A0 (p0).length c0)), (18, (Value.int .i64 ((p0).length : Nat))), (19, (Value.int .i64 x29)), (32, (Value.bool false))]) ∧ Cx s0.next [] [] s0 s [(i132, AObj.box 3 [(Value.int .i64 t)]), (i133, AObj.box 51 [(Value.int .i64 x91.1), (Value.int .i64 x91.2.1), (Value.int .i64 x91.2.2.1), (Value.int .i64 x91.2.2.2)]), (i30, AObj.box 24 [(Value.int .i64 0), (Value.int .i64 0)])] [(On.mk (rI .i64) y28 A26 c27 3)] []
theorem x23_2 (s0 : St) (p0 : (List (Int × Int × Int × Int))) (A0 : Option Addr) (c0 : Nat) (h0 : Sr (rP (rI .i64) (rP (rI .i64) (rP (rI .i64) (rI .i64)))) s0 A0 c0 p0) (A26 : Option Addr) (c27 : Nat) (i30 : Nat) (x29 : Int) (x91 : (Int × Int × Int × Int)) (y28 : (List Int)) (i132 : Nat) (i133 : Nat) (t : Int) (e : X) (g : Regs) (s : St) (h : Ex23_2 s0 p0 A0 c0 h0 A26 c27 i30 x29 x91 y28 i132 i133 t e g s) : e ≠ .normal := by
  obtain ⟨h, _⟩ := h
  rw [h]; intro hh; cases hh
def pb23_2 (n : Nat) (p0 : (List (Int × Int × Int × Int))) (x29 : Int) (x91 : (Int × Int × Int × Int)) (t : (Int × Bool)) : Option ((Int × Bool) ⊕ Int) :=
  pj (fun (b201 : Bool) => if b201 then ((slP p0 0 x29 (fun y208 => (p40_42 n y208 t.1).bind fun r211 => (((if (decide ((r211 : Int) ≥ 0)) then (rd p0 r211 (fun x216 => (some (.inl (x216.2.1, (decide ((r211 : Int) ≥ 0))))))) else ((some (.inl (t.1, (decide ((r211 : Int) ≥ 0)))))))))))) else (((some (.inr t.1))))) (fun J200 => if t.2 then ((J200 (decide ((t.1 : Int) < x91.2.1)))) else ((J200 false)))
theorem b23_2 (n : Nat) (s0 : St) (p0 : (List (Int × Int × Int × Int))) (A0 : Option Addr) (c0 : Nat) (h0 : Sr (rP (rI .i64) (rP (rI .i64) (rP (rI .i64) (rI .i64)))) s0 A0 c0 p0) (A26 : Option Addr) (c27 : Nat) (i30 : Nat) (x29 : Int) (x91 : (Int × Int × Int × Int)) (y28 : (List Int)) (i132 : Nat) (i133 : Nat) (t : (Int × Bool)) (g : Regs) (s191 : St) (K : Kont) (Q : Out → St → Prop) (h : Inv23_2 s0 p0 A0 c0 h0 A26 c27 i30 x29 x91 y28 i132 i133 t g s191) :
    Rf (pb23_2 n p0 x29 x91 t) (fun r => ∀ e g' s', LK (Inv23_2 s0 p0 A0 c0 h0 A26 c27 i30 x29 x91 y28 i132 i133) (Ex23_2 s0 p0 A0 c0 h0 A26 c27 i30 x29 x91 y28 i132 i133) r e g' s' → Ev (K e g' s') Q) (fun _ => Q) (kBody E 23 n [.b, .b, .b, .a, .b, .a, .a, .b, .b, .a, .a, .b, .b, .a, .b, .a, .a] g s191 K) := by
  obtain ⟨x130, b131⟩ := t
  obtain ⟨w194, w195, rfl, C192⟩ := h
  rw [e23_body1 n]
  unfold pb23_2
  refine Rf.gen fun H Q hH hQ => ?_
  try dsimp only
  refine Rf.pj fun J200 J200' hJ200 hJ200' => ?_
  have J200h : ∀ (b201 : Bool) (_ : Cx s0.next [] [] s0 s191 [(i132, AObj.box 3 [(Value.int .i64 x130)]), (i133, AObj.box 51 [(Value.int .i64 x91.1), (Value.int .i64 x91.2.1), (Value.int .i64 x91.2.2.1), (Value.int .i64 x91.2.2.2)]), (i30, AObj.box 24 [(Value.int .i64 0), (Value.int .i64 0)])] [(On.mk (rI .i64) y28 A26 c27 3)] []), Rf (J200 b201) H Q (J200' b201) := by
    subst hJ200
    subst hJ200'
    intro b201 C203
    refine Rf.ite ?_ ?_
    · refine Rf.ksl (r := (rP (rI .i64) (rP (rI .i64) (rP (rI .i64) (rI .i64))))) u47 (by kernel_rfl) (C203.sr0 rfl h0) rfl rfl fun y208 A204 c205 h206 => ?_
      have C209 := C203.add (Fa.sr (rP (rI .i64) (rP (rI .i64) (rP (rI .i64) (rI .i64)))) A204 c205 y208) h206
      refine Rf.call0 C209 (t40_42 n y208 x130 s191 (C209.srG m0) (C209.obj _ m0).1 (C209.obj _ m0).2.1) ?_
      rintro r211 _ s212 rfl h214
      have C215 : Cx s0.next [] [] s0 s212 [(i132, AObj.box 3 [(Value.int .i64 x130)]), (i133, AObj.box 51 [(Value.int .i64 x91.1), (Value.int .i64 x91.2.1), (Value.int .i64 x91.2.2.1), (Value.int .i64 x91.2.2.2)]), (i30, AObj.box 24 [(Value.int .i64 0), (Value.int .i64 0)])] [(On.mk (rI .i64) y28 A26 c27 3)] [(Fa.sr (rP (rI .i64) (rP (rI .i64) (rP (rI .i64) (rI .i64)))) A204 c205 y208)] := h214 [] (by simp) List.Pairwise.nil
      refine (Rf.asI ?_)
      refine Rf.ite ?_ ?_
      · refine Rf.elt (r := (rP (rI .i64) (rP (rI .i64) (rP (rI .i64) (rI .i64))))) (C215.sr0 rfl h0) rfl fun x216 i217 o218 c219 r220 h221 => ?_
        obtain ⟨c226, c227, rfl, r228, r229⟩ := rP_elim r220
        obtain rfl := rI_elim r228
        obtain ⟨c230, c231, rfl, r232, r233⟩ := rP_elim r229
        obtain rfl := rI_elim r232
        obtain ⟨c234, c235, rfl, r236, r237⟩ := rP_elim r233
        obtain rfl := rI_elim r236
        obtain rfl := rI_elim r237
        refine Rf.ldI (h221.at 1 rfl) ?_
        refine Rf.sto 0 C215 rfl (by simp) rfl fun s241 (C242 : Cx s0.next [] [] s0 s241 [(i132, AObj.box 3 [(Value.int .i64 x216.2.1)]), (i133, AObj.box 51 [(Value.int .i64 x91.1), (Value.int .i64 x91.2.1), (Value.int .i64 x91.2.2.1), (Value.int .i64 x91.2.2.2)]), (i30, AObj.box 24 [(Value.int .i64 0), (Value.int .i64 0)])] [(On.mk (rI .i64) y28 A26 c27 3)] [(Fa.sr (rP (rI .i64) (rP (rI .i64) (rP (rI .i64) (rI .i64)))) A204 c205 y208)]) => ?_
        subst hH; subst hQ
        exact Rf.leaf fun h => h _ _ _ ⟨rfl, _, _, rfl, (C242.sub (List.Sublist.refl _) (List.Sublist.refl _) (List.Sublist.cons _ List.Sublist.slnil))⟩
      · subst hH; subst hQ
        exact Rf.leaf fun h => h _ _ _ ⟨rfl, _, _, rfl, (C215.sub (List.Sublist.refl _) (List.Sublist.refl _) (List.Sublist.cons _ List.Sublist.slnil))⟩
    · subst hH; subst hQ
      exact Rf.leaf fun h => h _ _ _ ⟨rfl, rfl, (C203.sub (List.Sublist.refl _) (List.Sublist.refl _) (List.Sublist.refl _))⟩
  clear hJ200 hJ200'
  refine Rf.ite ?_ ?_
  · refine Rf.ldI (C192.at m0 rfl) ?_
    refine Rf.ldI (C192.at m1 rfl) ?_
    exact J200h (decide ((x130 : Int) < x91.2.1)) (C192.sub (List.Sublist.refl _) (List.Sublist.refl _) (List.Sublist.refl _))
  · exact J200h false (C192.sub (List.Sublist.refl _) (List.Sublist.refl _) (List.Sublist.refl _))
abbrev Inv23_1 (s0 : St) (p0 : (List (Int × Int × Int × Int))) (A0 : Option Addr) (c0 : Nat) (h0 : Sr (rP (rI .i64) (rP (rI .i64) (rP (rI .i64) (rI .i64)))) s0 A0 c0 p0) (i30 : Nat) (t : ((List Int) × Int)) (g : Regs) (s : St) : Prop := ∃ (A26 : Option Addr) (c27 : Nat), g = (rg 57 [(0, (Value.slice A0 (p0).length c0)), (3, (Value.pointer (some ⟨i30, 0, none⟩))), (5, (Value.slice A26 (t.1).length c27)), (17, (Value.slice A0 (p0).length c0)), (18, (Value.int .i64 ((p0).length : Nat))), (19, (Value.int .i64 t.2))]) ∧ Cx s0.next [] [] s0 s [(i30, AObj.box 24 [(Value.int .i64 0), (Value.int .i64 0)])] [(On.mk (rI .i64) t.1 A26 c27 3)] []
abbrev Ex23_1 (s0 : St) (p0 : (List (Int × Int × Int × Int))) (A0 : Option Addr) (c0 : Nat) (h0 : Sr (rP (rI .i64) (rP (rI .i64) (rP (rI .i64) (rI .i64)))) s0 A0 c0 p0) (i30 : Nat) (t : ((List Int) × Int)) (e : X) (g : Regs) (s : St) : Prop := ∃ (A320 : Option Addr) (c321 : Nat), e = .exit 0 ∧ g = (rg 57 [(0, (Value.slice A0 (p0).length c0)), (3, (Value.pointer (some ⟨i30, 0, none⟩))), (5, (Value.slice A320 (t.1).length c321)), (17, (Value.slice A0 (p0).length c0)), (18, (Value.int .i64 ((p0).length : Nat))), (19, (Value.int .i64 t.2)), (20, (Value.bool false))]) ∧ Cx s0.next [] [] s0 s [(i30, AObj.box 24 [(Value.int .i64 0), (Value.int .i64 0)])] [(On.mk (rI .i64) t.1 A320 c321 3)] []
theorem x23_1 (s0 : St) (p0 : (List (Int × Int × Int × Int))) (A0 : Option Addr) (c0 : Nat) (h0 : Sr (rP (rI .i64) (rP (rI .i64) (rP (rI .i64) (rI .i64)))) s0 A0 c0 p0) (i30 : Nat) (t : ((List Int) × Int)) (e : X) (g : Regs) (s : St) (h : Ex23_1 s0 p0 A0 c0 h0 i30 t e g s) : e ≠ .normal := by
  obtain ⟨_, _, h, _⟩ := h
  rw [h]; intro hh; cases hh
def pb23_1 (n : Nat) (p0 : (List (Int × Int × Int × Int))) (t : ((List Int) × Int)) : Option (((List Int) × Int) ⊕ ((List Int) × Int)) :=
  (if (decide ((t.2 : Int) < ((p0).length : Nat))) then ((rd p0 t.2 (fun x91 => ((((loopP (pb23_2 n p0 t.2 x91) n (x91.1, true)).bind fun t244 => (if (decide ((t244 : Int) ≥ x91.2.1)) then (apP 8 t.1 [t.2] (fun y313 => (some (.inl ((t.1 ++ [t.2]), (IntKind.wrap .i64 (t.2 + 1))))))) else ((some (.inl (t.1, (IntKind.wrap .i64 (t.2 + 1))))))))))))) else (((some (.inr (t.1, t.2))))))
theorem b23_1 (n : Nat) (s0 : St) (p0 : (List (Int × Int × Int × Int))) (A0 : Option Addr) (c0 : Nat) (h0 : Sr (rP (rI .i64) (rP (rI .i64) (rP (rI .i64) (rI .i64)))) s0 A0 c0 p0) (i30 : Nat) (t : ((List Int) × Int)) (g : Regs) (s88 : St) (K : Kont) (Q : Out → St → Prop) (h : Inv23_1 s0 p0 A0 c0 h0 i30 t g s88) :
    Rf (pb23_1 n p0 t) (fun r => ∀ e g' s', LK (Inv23_1 s0 p0 A0 c0 h0 i30) (Ex23_1 s0 p0 A0 c0 h0 i30) r e g' s' → Ev (K e g' s') Q) (fun _ => Q) (kBody E 23 n [.b, .b, .b, .a, .b, .a, .a] g s88 K) := by
  obtain ⟨y28, x29⟩ := t
  obtain ⟨A26, c27, rfl, C89⟩ := h
  rw [e23_body0 n]
  unfold pb23_1
  refine Rf.gen fun H Q hH hQ => ?_
  try dsimp only
  refine Rf.ite ?_ ?_
  · refine Rf.elt (r := (rP (rI .i64) (rP (rI .i64) (rP (rI .i64) (rI .i64))))) (C89.sr0 rfl h0) rfl fun x91 i92 o93 c94 r95 h96 => ?_
    obtain ⟨c101, c102, rfl, r103, r104⟩ := rP_elim r95
    obtain rfl := rI_elim r103
    obtain ⟨c105, c106, rfl, r107, r108⟩ := rP_elim r104
    obtain rfl := rI_elim r107
    obtain ⟨c109, c110, rfl, r111, r112⟩ := rP_elim r108
    obtain rfl := rI_elim r111
    obtain rfl := rI_elim r112
    refine Rf.ldI (h96.at 0 rfl) ?_
    refine Rf.ldI (h96.at 1 rfl) ?_
    refine Rf.ldI (h96.at 2 rfl) ?_
    refine Rf.ldI (h96.at 3 rfl) ?_
    refine Rf.new C89 fun s117 (C118 : Cx s0.next [] [] s0 s117 [(s88.next, AObj.box 51 [(Value.int .i64 0), (Value.int .i64 0), (Value.int .i64 0), (Value.int .i64 0)]), (i30, AObj.box 24 [(Value.int .i64 0), (Value.int .i64 0)])] [(On.mk (rI .i64) y28 A26 c27 3)] []) => ?_
    refine Rf.sto 0 C118 rfl (by simp) rfl fun s120 (C121 : Cx s0.next [] [] s0 s120 [(s88.next, AObj.box 51 [(Value.int .i64 x91.1), (Value.int .i64 x91.2.1), (Value.int .i64 x91.2.2.1), (Value.int .i64 x91.2.2.2)]), (i30, AObj.box 24 [(Value.int .i64 0), (Value.int .i64 0)])] [(On.mk (rI .i64) y28 A26 c27 3)] []) => ?_
    refine Rf.ldI (C121.at m0 rfl) ?_
    refine Rf.new C121 fun s125 (C126 : Cx s0.next [] [] s0 s125 [(s120.next, AObj.box 3 [(Value.int .i64 0)]), (s88.next, AObj.box 51 [(Value.int .i64 x91.1), (Value.int .i64 x91.2.1), (Value.int .i64 x91.2.2.1), (Value.int .i64 x91.2.2.2)]), (i30, AObj.box 24 [(Value.int .i64 0), (Value.int .i64 0)])] [(On.mk (rI .i64) y28 A26 c27 3)] []) => ?_
    refine Rf.sto 0 C126 rfl (by simp) rfl fun s128 (C129 : Cx s0.next [] [] s0 s128 [(s120.next, AObj.box 3 [(Value.int .i64 x91.1)]), (s88.next, AObj.box 51 [(Value.int .i64 x91.1), (Value.int .i64 x91.2.1), (Value.int .i64 x91.2.2.1), (Value.int .i64 x91.2.2.2)]), (i30, AObj.box 24 [(Value.int .i64 0), (Value.int .i64 0)])] [(On.mk (rI .i64) y28 A26 c27 3)] []) => ?_
    refine Rf.loop (Inv := Inv23_2 s0 p0 A0 c0 h0 A26 c27 i30 x29 x91 y28 s120.next s88.next) (Ex := Ex23_2 s0 p0 A0 c0 h0 A26 c27 i30 x29 x91 y28 s120.next s88.next) (x23_2 s0 p0 A0 c0 h0 A26 c27 i30 x29 x91 y28 s120.next s88.next) (fun t g s K Q h => b23_2 n s0 p0 A0 c0 h0 A26 c27 i30 x29 x91 y28 s120.next s88.next t g s K Q h) n _ _ _ ⟨_, _, rfl, (C129.sub (List.Sublist.refl _) (List.Sublist.refl _) (List.Sublist.refl _))⟩ ?_
    intro t244 e g s302 h
    obtain ⟨rfl, rfl, C303⟩ := h
    rw [e23_after1_exit2 n]
    refine Rf.ldI (C303.at m0 rfl) ?_
    refine Rf.ldI (C303.at m1 rfl) ?_
    refine Rf.ite ?_ ?_
    · refine Rf.newR (r := (rI .i64)) (xs := [x29]) C303 rfl (many.cons (c := [(Value.int .i64 x29)]) rI_mk many.nil) fun s308 (C309 : Cx s0.next [] [] s0 s308 [(s120.next, AObj.box 3 [(Value.int .i64 t244)]), (s88.next, AObj.box 51 [(Value.int .i64 x91.1), (Value.int .i64 x91.2.1), (Value.int .i64 x91.2.2.1), (Value.int .i64 x91.2.2.2)]), (i30, AObj.box 24 [(Value.int .i64 0), (Value.int .i64 0)])] [(On.mk (rI .i64) [x29] (some ⟨s302.next, 0, none⟩) 1 3), (On.mk (rI .i64) y28 A26 c27 3)] []) => ?_
      refine Rf.kapp 1 C309 rfl rfl (by decide) (by decide) (Ap.sr u39 rfl (C309.srB m0)) fun A311 c312 s315 (C316 : Cx s0.next [] [] s0 s315 [(s120.next, AObj.box 3 [(Value.int .i64 t244)]), (s88.next, AObj.box 51 [(Value.int .i64 x91.1), (Value.int .i64 x91.2.1), (Value.int .i64 x91.2.2.1), (Value.int .i64 x91.2.2.2)]), (i30, AObj.box 24 [(Value.int .i64 0), (Value.int .i64 0)])] [(On.mk (rI .i64) [x29] (some ⟨s302.next, 0, none⟩) 1 3), (On.mk (rI .i64) (y28 ++ [x29]) A311 c312 3)] []) => ?_
      have C317 : Cx s0.next [] [] s0 s315 [(s120.next, AObj.box 3 [(Value.int .i64 t244)]), (s88.next, AObj.box 51 [(Value.int .i64 x91.1), (Value.int .i64 x91.2.1), (Value.int .i64 x91.2.2.1), (Value.int .i64 x91.2.2.2)]), (i30, AObj.box 24 [(Value.int .i64 0), (Value.int .i64 0)])] [(On.mk (rI .i64) (y28 ++ [x29]) A311 c312 3)] [] := C316.sub (List.Sublist.refl _) (List.Sublist.cons _ (List.Sublist.cons_cons _ List.Sublist.slnil)) (List.Sublist.refl _)
      subst hH; subst hQ
      exact Rf.leaf fun h => h _ _ _ ⟨rfl, _, _, rfl, (C317.sub (List.Sublist.cons _ (List.Sublist.cons _ (List.Sublist.cons_cons _ List.Sublist.slnil))) (List.Sublist.refl _) (List.Sublist.refl _))⟩
    · subst hH; subst hQ
      exact Rf.leaf fun h => h _ _ _ ⟨rfl, _, _, rfl, (C303.sub (List.Sublist.cons _ (List.Sublist.cons _ (List.Sublist.cons_cons _ List.Sublist.slnil))) (List.Sublist.refl _) (List.Sublist.refl _))⟩
  · subst hH; subst hQ
    exact Rf.leaf fun h => h _ _ _ ⟨_, _, rfl, rfl, (C89.sub (List.Sublist.refl _) (List.Sublist.refl _) (List.Sublist.refl _))⟩
abbrev P23 (N : Nat) (X : List Nat) (r : ((List Int) × (Int × Int))) (v : Value) (s : St) : Prop := ∃ (A0 : Option Addr) (c0 : Nat), v = (Value.tuple #[(Value.slice A0 (r.1).length c0), (Value.agg #[(Value.int .i64 r.2.1), (Value.int .i64 r.2.2)])]) ∧ (On.mk (rI .i64) r.1 A0 c0 3).holds N X s
def p23 : Nat → (List (Int × Int × Int × Int)) → Option ((List Int) × (Int × Int))
  | 0, _ => none
  | n + 1, p0 => ((p39 n p0).bind fun r4 => ((if (!(((r4.1 : Int) == 0) && (((r4.2 : Int) == 0) && true))) then (((some (([] : (List Int)), (r4.1, r4.2))))) else (((((loopP (pb23_1 n p0) n (([] : List Int), 0)).bind fun t324 => (some (t324.1, (0, 0))))))))))
theorem t23 (k : Nat) (p0 : (List (Int × Int × Int × Int))) (s0 : St) {A0 : Option Addr} {c0 : Nat} (h0 : Sr (rP (rI .i64) (rP (rI .i64) (rP (rI .i64) (rI .i64)))) s0 A0 c0 p0) :
    Rf (p23 k p0) (fun _ => True) (fun r => RtC s0.next [] [] s0 (P23 s0.next [] r)) (acall E k 23 [(Value.slice A0 (p0).length c0)] s0) := by
  cases k with
  | zero => exact Rf.none
  | succ n =>
    rw [e23 n]
    rw [p23]
    refine Rf.gen fun H Q hH hQ => ?_
    have C0 : Cx s0.next [] [] s0 s0 [] [] [] := Cx.start s0
    refine Rf.new C0 fun s1 (C2 : Cx s0.next [] [] s0 s1 [(s0.next, AObj.box 24 [(Value.int .i64 0), (Value.int .i64 0)])] [] []) => ?_
    refine Rf.call0 C2 (t39 n p0 s1 (C2.sr0 rfl h0)) ?_
    rintro r4 _ s5 rfl h8
    have C9 : Cx s0.next [] [] s0 s5 [(s0.next, AObj.box 24 [(Value.int .i64 0), (Value.int .i64 0)])] [] [] := h8 [] (by simp) List.Pairwise.nil
    refine (Rf.asAgg (Rf.unc (Rf.asI (Rf.unc (Rf.asI (Rf.unn ?_))))))
    refine Rf.new C9 fun s10 (C11 : Cx s0.next [] [] s0 s10 [(s5.next, AObj.box 24 [(Value.int .i64 0), (Value.int .i64 0)]), (s0.next, AObj.box 24 [(Value.int .i64 0), (Value.int .i64 0)])] [] []) => ?_
    refine Rf.sto 0 C11 rfl (by simp) rfl fun s13 (C14 : Cx s0.next [] [] s0 s13 [(s5.next, AObj.box 24 [(Value.int .i64 r4.1), (Value.int .i64 r4.2)]), (s0.next, AObj.box 24 [(Value.int .i64 0), (Value.int .i64 0)])] [] []) => ?_
    refine Rf.ldI (C14.at m0 rfl) ?_
    refine Rf.ldI (C14.at m0 rfl) ?_
    refine Rf.ite ?_ ?_
    · refine Rf.ldI (C14.at m0 rfl) ?_
      refine Rf.ldI (C14.at m0 rfl) ?_
      refine Rf.sto 1 C14 rfl (by simp) rfl fun s19 (C20 : Cx s0.next [] [] s0 s19 [(s5.next, AObj.box 24 [(Value.int .i64 r4.1), (Value.int .i64 r4.2)]), (s0.next, AObj.box 24 [(Value.int .i64 r4.1), (Value.int .i64 r4.2)])] [] []) => ?_
      refine Rf.ldI (C20.at m1 rfl) ?_
      refine Rf.ldI (C20.at m1 rfl) ?_
      subst hH; subst hQ
      exact Rf.leaf fun _ => Ev.done (Rf.ret C20 ⟨_, _, rfl, .inl ⟨rfl, rfl, rfl⟩⟩)
    · have C24 : Cx s0.next [] [] s0 s13 [(s5.next, AObj.box 24 [(Value.int .i64 r4.1), (Value.int .i64 r4.2)]), (s0.next, AObj.box 24 [(Value.int .i64 0), (Value.int .i64 0)])] [(On.mk (rI .i64) ([] : List Int) none 0 3)] [] := C14.addNil (rI .i64) 3
      refine Rf.loop (Inv := Inv23_1 s0 p0 A0 c0 h0 s0.next) (Ex := Ex23_1 s0 p0 A0 c0 h0 s0.next) (x23_1 s0 p0 A0 c0 h0 s0.next) (fun t g s K Q h => b23_1 n s0 p0 A0 c0 h0 s0.next t g s K Q h) n _ _ _ ⟨_, _, rfl, (C24.sub (List.Sublist.cons _ (List.Sublist.cons_cons _ List.Sublist.slnil)) (List.Sublist.refl _) (List.Sublist.refl _))⟩ ?_
      intro t324 e g s382 h
      obtain ⟨A320, c321, rfl, rfl, C383⟩ := h
      rw [e23_after0_exit0 n]
      refine Rf.sto 0 C383 rfl (by simp) rfl fun s384 (C385 : Cx s0.next [] [] s0 s384 [(s0.next, AObj.box 24 [(Value.int .i64 0), (Value.int .i64 0)])] [(On.mk (rI .i64) t324.1 A320 c321 3)] []) => ?_
      refine Rf.ldI (C385.at m0 rfl) ?_
      refine Rf.ldI (C385.at m0 rfl) ?_
      subst hH; subst hQ
      exact Rf.leaf fun _ => Ev.done (Rf.ret C385 ⟨_, _, rfl, C385.own _ m0⟩)
-- 24 "brindlewood/brindlewoodref7.CatchAt"
abbrev Inv24_1 (s0 : St) (p0 : (List (Int × Int × Int × Int))) (p1 : Int) (A0 : Option Addr) (c0 : Nat) (h0 : Sr (rP (rI .i64) (rP (rI .i64) (rP (rI .i64) (rI .i64)))) s0 A0 c0 p0)  (t : Int) (g : Regs) (s : St) : Prop := g = (rg 26 [(1, (Value.int .i64 p1)), (7, (Value.slice A0 (p0).length c0)), (8, (Value.int .i64 ((p0).length : Nat))), (9, (Value.int .i64 t))]) ∧ Cx s0.next [] [] s0 s [] [] []
abbrev Ex24_1 (s0 : St) (p0 : (List (Int × Int × Int × Int))) (p1 : Int) (A0 : Option Addr) (c0 : Nat) (h0 : Sr (rP (rI .i64) (rP (rI .i64) (rP (rI .i64) (rI .i64)))) s0 A0 c0 p0)  (t : (Int ⊕ Int)) (e : X) (g : Regs) (s : St) : Prop := match t with
  | (.inl t) => e = .exit 0 ∧ g = (rg 26 [(1, (Value.int .i64 p1)), (7, (Value.slice A0 (p0).length c0)), (8, (Value.int .i64 ((p0).length : Nat))), (9, (Value.int .i64 t)), (10, (Value.bool false))]) ∧ Cx s0.next [] [] s0 s [] [] []
  | (.inr t) => e = .ret ∧ g = (rg 26 [(4, (Value.int .i64 t))]) ∧ Cx s0.next [] [] s0 s [] [] []
theorem x24_1 (s0 : St) (p0 : (List (Int × Int × Int × Int))) (p1 : Int) (A0 : Option Addr) (c0 : Nat) (h0 : Sr (rP (rI .i64) (rP (rI .i64) (rP (rI .i64) (rI .i64)))) s0 A0 c0 p0)  (t : (Int ⊕ Int)) (e : X) (g : Regs) (s : St) (h : Ex24_1 s0 p0 p1 A0 c0 h0  t e g s) : e ≠ .normal := by
  rcases t with t | t
  · obtain ⟨h, _⟩ := h
    rw [h]; intro hh; cases hh
  · obtain ⟨h, _⟩ := h
    rw [h]; intro hh; cases hh
def pb24_1 (n : Nat) (p0 : (List (Int × Int × Int × Int))) (p1 : Int) (t : Int) : Option (Int ⊕ (Int ⊕ Int)) :=
  (if (decide ((t : Int) < ((p0).length : Nat))) then ((rd p0 t (fun x31 => (pj (fun (b69 : Bool) => if b69 then ((((some (.inr (.inr t)))))) else (((some (.inl (IntKind.wrap .i64 (t + 1))))))) (fun J68 => if (decide ((x31.1 : Int) ≤ p1)) then ((J68 (decide ((p1 : Int) < x31.2.1)))) else ((J68 false))))))) else (((some (.inr (.inl t))))))
theorem b24_1 (n : Nat) (s0 : St) (p0 : (List (Int × Int × Int × Int))) (p1 : Int) (A0 : Option Addr) (c0 : Nat) (h0 : Sr (rP (rI .i64) (rP (rI .i64) (rP (rI .i64) (rI .i64)))) s0 A0 c0 p0)  (x1 : Int) (g : Regs) (s28 : St) (K : Kont) (Q : Out → St → Prop) (h : Inv24_1 s0 p0 p1 A0 c0 h0  x1 g s28) :
    Rf (pb24_1 n p0 p1 x1) (fun r => ∀ e g' s', LK (Inv24_1 s0 p0 p1 A0 c0 h0 ) (Ex24_1 s0 p0 p1 A0 c0 h0 ) r e g' s' → Ev (K e g' s') Q) (fun _ => Q) (kBody E 24 n [.b, .a, .b, .a, .a] g s28 K) := by
  obtain ⟨rfl, C29⟩ := h
  rw [e24_body0 n]
  unfold pb24_1
  refine Rf.gen fun H Q hH hQ => ?_
  refine Rf.ite ?_ ?_
  · refine Rf.elt (r := (rP (rI .i64) (rP (rI .i64) (rP (rI .i64) (rI .i64))))) (C29.sr0 rfl h0) rfl fun x31 i32 o33 c34 r35 h36 => ?_
    obtain ⟨c41, c42, rfl, r43, r44⟩ := rP_elim r35
    obtain rfl := rI_elim r43
    obtain ⟨c45, c46, rfl, r47, r48⟩ := rP_elim r44
    obtain rfl := rI_elim r47
    obtain ⟨c49, c50, rfl, r51, r52⟩ := rP_elim r48
    obtain rfl := rI_elim r51
    obtain rfl := rI_elim r52
    refine Rf.ldI (h36.at 0 rfl) ?_
    refine Rf.ldI (h36.at 1 rfl) ?_
    refine Rf.ldI (h36.at 2 rfl) ?_
    refine Rf.ldI (h36.at 3 rfl) ?_
    refine Rf.new C29 fun s57 (C58 : Cx s0.next [] [] s0 s57 [(s28.next, AObj.box 51 [(Value.int .i64 0), (Value.int .i64 0), (Value.int .i64 0), (Value.int .i64 0)])] [] []) => ?_
    refine Rf.sto 0 C58 rfl (by simp) rfl fun s60 (C61 : Cx s0.next [] [] s0 s60 [(s28.next, AObj.box 51 [(Value.int .i64 x31.1), (Value.int .i64 x31.2.1), (Value.int .i64 x31.2.2.1), (Value.int .i64 x31.2.2.2)])] [] []) => ?_
    refine Rf.pj fun J68 J68' hJ68 hJ68' => ?_
    have J68h : ∀ (b69 : Bool) (_ : Cx s0.next [] [] s0 s60 [] [] []), Rf (J68 b69) H Q (J68' b69) := by
      subst hJ68
      subst hJ68'
      intro b69 C71
      refine Rf.ite ?_ ?_
      · subst hH; subst hQ
        exact Rf.leaf fun h => h _ _ _ ⟨rfl, rfl, (C71.sub (List.Sublist.refl _) (List.Sublist.refl _) (List.Sublist.refl _))⟩
      · subst hH; subst hQ
        exact Rf.leaf fun h => h _ _ _ ⟨rfl, rfl, (C71.sub (List.Sublist.refl _) (List.Sublist.refl _) (List.Sublist.refl _))⟩
    clear hJ68 hJ68'
    refine Rf.ldI (C61.at m0 rfl) ?_
    refine Rf.ite ?_ ?_
    · refine Rf.ldI (C61.at m0 rfl) ?_
      exact J68h (decide ((p1 : Int) < x31.2.1)) (C61.sub (List.Sublist.cons _ List.Sublist.slnil) (List.Sublist.refl _) (List.Sublist.refl _))
    · exact J68h false (C61.sub (List.Sublist.cons _ List.Sublist.slnil) (List.Sublist.refl _) (List.Sublist.refl _))
  · subst hH; subst hQ
    exact Rf.leaf fun h => h _ _ _ ⟨rfl, rfl, (C29.sub (List.Sublist.refl _) (List.Sublist.refl _) (List.Sublist.refl _))⟩
abbrev P24 (N : Nat) (X : List Nat) (r : Int) (v : Value) (s : St) : Prop := v = (Value.int .i64 r)
def p24 : Nat → (List (Int × Int × Int × Int)) → Int → Option Int
  | 0, _, _ => none
  | n + 1, p0, p1 => (((loopP (pb24_1 n p0 p1) n 0).bind fun t132 => match t132 with | (.inl t74) => ((some (-1))) | (.inr t103) => (some t103)))
theorem t24 (k : Nat) (p0 : (List (Int × Int × Int × Int))) (p1 : Int) (s0 : St) {A0 : Option Addr} {c0 : Nat} (h0 : Sr (rP (rI .i64) (rP (rI .i64) (rP (rI .i64) (rI .i64)))) s0 A0 c0 p0) :
    Rf (p24 k p0 p1) (fun _ => True) (fun r => RtC s0.next [] [] s0 (P24 s0.next [] r)) (acall E k 24 [(Value.slice A0 (p0).length c0), (Value.int .i64 p1)] s0) := by
  cases k with
  | zero => exact Rf.none
  | succ n =>
    rw [e24 n]
    rw [p24]
    refine Rf.gen fun H Q hH hQ => ?_
    have C0 : Cx s0.next [] [] s0 s0 [] [] [] := Cx.start s0
    refine Rf.loop (Inv := Inv24_1 s0 p0 p1 A0 c0 h0 ) (Ex := Ex24_1 s0 p0 p1 A0 c0 h0 ) (x24_1 s0 p0 p1 A0 c0 h0 ) (fun t g s K Q h => b24_1 n s0 p0 p1 A0 c0 h0  t g s K Q h) n _ _ _ ⟨rfl, (C0.sub (List.Sublist.refl _) (List.Sublist.refl _) (List.Sublist.refl _))⟩ ?_
    intro t e g s h
    rcases t with t74 | t103
    · generalize s = s101 at h ⊢
      obtain ⟨rfl, rfl, C102⟩ := h
      rw [e24_after0_exit0 n]
      subst hH; subst hQ
      exact Rf.leaf fun _ => Ev.done (Rf.ret C102 rfl)
    · generalize s = s130 at h ⊢
      obtain ⟨rfl, rfl, C131⟩ := h
      rw [e24_after0_ret n]
      subst hH; subst hQ
      exact Rf.leaf fun _ => Ev.done (Rf.ret C131 rfl)
-- 44 "slices.Equal[[]int,int]"
abbrev Inv44_1 (s0 : St) (p0 : (List Int)) (p1 : (List Int)) (A0 : Option Addr) (c0 : Nat) (A1 : Option Addr) (c1 : Nat) (h0 : Sr (rI .i64) s0 A0 c0 p0) (h1 : Sr (rI .i64) s0 A1 c1 p1)  (t : Int) (g : Regs) (s : St) : Prop := g = (rg 26 [(0, (Value.slice A0 (p0).length c0)), (1, (Value.slice A1 (p1).length c1)), (12, (Value.int .i64 ((p0).length : Nat))), (13, (Value.int .i64 t))]) ∧ Cx s0.next [] [] s0 s [] [] []
abbrev Ex44_1 (s0 : St) (p0 : (List Int)) (p1 : (List Int)) (A0 : Option Addr) (c0 : Nat) (A1 : Option Addr) (c1 : Nat) (h0 : Sr (rI .i64) s0 A0 c0 p0) (h1 : Sr (rI .i64) s0 A1 c1 p1)  (t : (Int ⊕ Unit)) (e : X) (g : Regs) (s : St) : Prop := match t with
  | (.inl t) => e = .exit 0 ∧ g = (rg 26 [(0, (Value.slice A0 (p0).length c0)), (1, (Value.slice A1 (p1).length c1)), (12, (Value.int .i64 ((p0).length : Nat))), (13, (Value.int .i64 t)), (14, (Value.bool false))]) ∧ Cx s0.next [] [] s0 s [] [] []
  | (.inr t) => e = .ret ∧ g = (rg 26 [(4, (Value.bool false))]) ∧ Cx s0.next [] [] s0 s [] [] []
theorem x44_1 (s0 : St) (p0 : (List Int)) (p1 : (List Int)) (A0 : Option Addr) (c0 : Nat) (A1 : Option Addr) (c1 : Nat) (h0 : Sr (rI .i64) s0 A0 c0 p0) (h1 : Sr (rI .i64) s0 A1 c1 p1)  (t : (Int ⊕ Unit)) (e : X) (g : Regs) (s : St) (h : Ex44_1 s0 p0 p1 A0 c0 A1 c1 h0 h1  t e g s) : e ≠ .normal := by
  rcases t with t | t
  · obtain ⟨h, _⟩ := h
    rw [h]; intro hh; cases hh
  · obtain ⟨h, _⟩ := h
    rw [h]; intro hh; cases hh
def pb44_1 (n : Nat) (p0 : (List Int)) (p1 : (List Int)) (t : Int) : Option (Int ⊕ (Int ⊕ Unit)) :=
  (if (decide ((t : Int) < ((p0).length : Nat))) then (((rd p0 t (fun x31 => rd p1 t (fun x38 => (if ((x31 : Int) != x38) then ((((some (.inr (.inr ())))))) else (((some (.inl (IntKind.wrap .i64 (t + 1)))))))))))) else (((some (.inr (.inl t))))))
theorem b44_1 (n : Nat) (s0 : St) (p0 : (List Int)) (p1 : (List Int)) (A0 : Option Addr) (c0 : Nat) (A1 : Option Addr) (c1 : Nat) (h0 : Sr (rI .i64) s0 A0 c0 p0) (h1 : Sr (rI .i64) s0 A1 c1 p1)  (x1 : Int) (g : Regs) (s28 : St) (K : Kont) (Q : Out → St → Prop) (h : Inv44_1 s0 p0 p1 A0 c0 A1 c1 h0 h1  x1 g s28) :
    Rf (pb44_1 n p0 p1 x1) (fun r => ∀ e g' s', LK (Inv44_1 s0 p0 p1 A0 c0 A1 c1 h0 h1 ) (Ex44_1 s0 p0 p1 A0 c0 A1 c1 h0 h1 ) r e g' s' → Ev (K e g' s') Q) (fun _ => Q) (kBody E 44 n [.b, .b, .a, .b, .a, .a] g s28 K) := by
  obtain ⟨rfl, C29⟩ := h
  rw [e44_body0 n]
  unfold pb44_1
  refine Rf.gen fun H Q hH hQ => ?_
  refine Rf.ite ?_ ?_
  · refine Rf.elt (r := (rI .i64)) (C29.sr0 rfl h0) rfl fun x31 i32 o33 c34 r35 h36 => ?_
    obtain rfl := rI_elim r35
    refine Rf.ldI (h36.at 0 rfl) ?_
    refine Rf.elt (r := (rI .i64)) (C29.sr0 rfl h1) rfl fun x38 i39 o40 c41 r42 h43 => ?_
    obtain rfl := rI_elim r42
    refine Rf.ldI (h43.at 0 rfl) ?_
    refine Rf.ite ?_ ?_
    · subst hH; subst hQ
      exact Rf.leaf fun h => h _ _ _ ⟨rfl, rfl, (C29.sub (List.Sublist.refl _) (List.Sublist.refl _) (List.Sublist.refl _))⟩
    · subst hH; subst hQ
      exact Rf.leaf fun h => h _ _ _ ⟨rfl, rfl, (C29.sub (List.Sublist.refl _) (List.Sublist.refl _) (List.Sublist.refl _))⟩
  · subst hH; subst hQ
    exact Rf.leaf fun h => h _ _ _ ⟨rfl, rfl, (C29.sub (List.Sublist.refl _) (List.Sublist.refl _) (List.Sublist.refl _))⟩
abbrev P44 (N : Nat) (X : List Nat) (r : Bool) (v : Value) (s : St) : Prop := v = (Value.bool r)
def p44 : Nat → (List Int) → (List Int) → Option Bool
  | 0, _, _ => none
  | n + 1, p0, p1 => ((if ((((p0).length : Nat) : Int) != ((p1).length : Nat)) then (((some false))) else ((((loopP (pb44_1 n p0 p1) n 0).bind fun t104 => match t104 with | (.inl t46) => ((some true)) | (.inr t75) => (some false))))))
theorem t44 (k : Nat) (p0 : (List Int)) (p1 : (List Int)) (s0 : St) {A0 : Option Addr} {c0 : Nat} {A1 : Option Addr} {c1 : Nat} (h0 : Sr (rI .i64) s0 A0 c0 p0) (h1 : Sr (rI .i64) s0 A1 c1 p1) :
    Rf (p44 k p0 p1) (fun _ => True) (fun r => RtC s0.next [] [] s0 (P44 s0.next [] r)) (acall E k 44 [(Value.slice A0 (p0).length c0), (Value.slice A1 (p1).length c1)] s0) := by
  cases k with
  | zero => exact Rf.none
  | succ n =>
    rw [e44 n]
    rw [p44]
    refine Rf.gen fun H Q hH hQ => ?_
    have C0 : Cx s0.next [] [] s0 s0 [] [] [] := Cx.start s0
    refine Rf.ite ?_ ?_
    · subst hH; subst hQ
      exact Rf.leaf fun _ => Ev.done (Rf.ret C0 rfl)
    · refine Rf.loop (Inv := Inv44_1 s0 p0 p1 A0 c0 A1 c1 h0 h1 ) (Ex := Ex44_1 s0 p0 p1 A0 c0 A1 c1 h0 h1 ) (x44_1 s0 p0 p1 A0 c0 A1 c1 h0 h1 ) (fun t g s K Q h => b44_1 n s0 p0 p1 A0 c0 A1 c1 h0 h1  t g s K Q h) n _ _ _ ⟨rfl, (C0.sub (List.Sublist.refl _) (List.Sublist.refl _) (List.Sublist.refl _))⟩ ?_
      intro t e g s h
      rcases t with t46 | t75
      · generalize s = s73 at h ⊢
        obtain ⟨rfl, rfl, C74⟩ := h
        rw [e44_after0_exit0 n]
        subst hH; subst hQ
        exact Rf.leaf fun _ => Ev.done (Rf.ret C74 rfl)
      · generalize s = s102 at h ⊢
        obtain ⟨rfl, rfl, C103⟩ := h
        rw [e44_after0_ret n]
        subst hH; subst hQ
        exact Rf.leaf fun _ => Ev.done (Rf.ret C103 rfl)
-- 26 "brindlewood/brindlewoodref7.Ints"
abbrev P26 (N : Nat) (X : List Nat) (r : Bool) (v : Value) (s : St) : Prop := v = (Value.bool r)
def p26 : Nat → (List Int) → (List Int) → Option Bool
  | 0, _, _ => none
  | n + 1, p0, p1 => ((p44 n p0 p1).bind fun r1 => (some r1))
theorem t26 (k : Nat) (p0 : (List Int)) (p1 : (List Int)) (s0 : St) {A0 : Option Addr} {c0 : Nat} {A1 : Option Addr} {c1 : Nat} (h0 : Sr (rI .i64) s0 A0 c0 p0) (h1 : Sr (rI .i64) s0 A1 c1 p1) :
    Rf (p26 k p0 p1) (fun _ => True) (fun r => RtC s0.next [] [] s0 (P26 s0.next [] r)) (acall E k 26 [(Value.slice A0 (p0).length c0), (Value.slice A1 (p1).length c1)] s0) := by
  cases k with
  | zero => exact Rf.none
  | succ n =>
    rw [e26 n]
    rw [p26]
    refine Rf.gen fun H Q hH hQ => ?_
    have C0 : Cx s0.next [] [] s0 s0 [] [] [] := Cx.start s0
    refine Rf.call0 C0 (t44 n p0 p1 s0 (C0.sr0 rfl h0) (C0.sr0 rfl h1)) ?_
    rintro r1 _ s2 rfl h4
    have C5 : Cx s0.next [] [] s0 s2 [] [] [] := h4 [] (by simp) List.Pairwise.nil
    refine (Rf.asB ?_)
    subst hH; subst hQ
    exact Rf.leaf fun _ => Ev.done (Rf.ret C5 rfl)
end Go.Proofs.YtmjignphadnadaaF
