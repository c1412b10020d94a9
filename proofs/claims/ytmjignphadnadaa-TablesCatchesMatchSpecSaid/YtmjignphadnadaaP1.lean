/- The functions of the tables' laws, told as plain functions. -/
import Derived.Test.YtmjignphadnadaaG2
import Derived.Test.YtmjignphadnadaaF22b
set_option linter.unusedVariables false
set_option linter.unusedSimpArgs false
namespace Go.Proofs.YtmjignphadnadaaF
open Go Go.Proofs
set_option maxRecDepth 100000

theorem u3 : E.und 3 = some (.int .i64) := by kernel_rfl
theorem u22 : E.und 22 = some (.slice 38) := by kernel_rfl
theorem u29 : E.und 29 = some (.slice 5) := by kernel_rfl
theorem u39 : E.und 39 = some (.slice 3) := by kernel_rfl
theorem u43 : E.und 43 = some (.slice 39) := by kernel_rfl
theorem u47 : E.und 47 = some (.slice 51) := by kernel_rfl
-- 28 "brindlewood/tables.fault"
abbrev P28 (N : Nat) (X : List Nat) (r : (Int × Int)) (v : Value) (s : St) : Prop := v = (Value.agg #[(Value.int .i64 r.1), (Value.int .i64 r.2)])
def p28 : Nat → Int → Int → Option (Int × Int)
  | 0, _, _ => none
  | n + 1, p0, p1 => ((some (p0, p1)))
theorem t28 (k : Nat) (p0 : Int) (p1 : Int) (s0 : St) :
    Rf (p28 k p0 p1) (fun _ => True) (fun r => RtC s0.next [] [] s0 (P28 s0.next [] r)) (acall E k 28 [(Value.int .i64 p0), (Value.int .i64 p1)] s0) := by
  cases k with
  | zero => exact Rf.none
  | succ n =>
    rw [e28 n]
    rw [p28]
    refine Rf.gen fun H Q hH hQ => ?_
    have C0 : Cx s0.next [] [] s0 s0 [] [] [] := Cx.start s0
    refine Rf.new C0 fun s1 (C2 : Cx s0.next [] [] s0 s1 [(s0.next, AObj.box 24 [(Value.int .i64 0), (Value.int .i64 0)])] [] []) => ?_
    refine Rf.sto 0 C2 rfl (by simp) rfl fun s4 (C5 : Cx s0.next [] [] s0 s4 [(s0.next, AObj.box 24 [(Value.int .i64 p0), (Value.int .i64 p1)])] [] []) => ?_
    refine Rf.ldI (C5.at m0 rfl) ?_
    refine Rf.ldI (C5.at m0 rfl) ?_
    subst hH; subst hQ
    exact Rf.leaf fun _ => Ev.done (Rf.ret C5 rfl)
-- 27 "brindlewood/tables.checkLines"
abbrev Inv27_1 (s0 : St) (p0 : (List (Int × Int))) (A0 : Option Addr) (c0 : Nat) (h0 : Sr (rP (rI .i64) (rI .i64)) s0 A0 c0 p0) (i15 : Nat) (t : Int) (g : Regs) (s : St) : Prop := g = (rg 64 [(0, (Value.slice A0 (p0).length c0)), (2, (Value.pointer (some ⟨i15, 0, none⟩))), (9, (Value.slice A0 (p0).length c0)), (10, (Value.int .i64 ((p0).length : Nat))), (11, (Value.int .i64 t))]) ∧ Cx s0.next [] [] s0 s [(i15, AObj.box 24 [(Value.int .i64 0), (Value.int .i64 0)])] [] []
abbrev Ex27_1 (s0 : St) (p0 : (List (Int × Int))) (A0 : Option Addr) (c0 : Nat) (h0 : Sr (rP (rI .i64) (rI .i64)) s0 A0 c0 p0) (i15 : Nat) (t : (Int ⊕ (Int × Int))) (e : X) (g : Regs) (s : St) : Prop := match t with
  | (.inl t) => e = .exit 0 ∧ g = (rg 64 [(0, (Value.slice A0 (p0).length c0)), (2, (Value.pointer (some ⟨i15, 0, none⟩))), (9, (Value.slice A0 (p0).length c0)), (10, (Value.int .i64 ((p0).length : Nat))), (11, (Value.int .i64 t)), (12, (Value.bool false))]) ∧ Cx s0.next [] [] s0 s [(i15, AObj.box 24 [(Value.int .i64 0), (Value.int .i64 0)])] [] []
  | (.inr t) => e = .ret ∧ g = (rg 64 [(2, (Value.pointer (some ⟨i15, 0, none⟩)))]) ∧ Cx s0.next [] [] s0 s [(i15, AObj.box 24 [(Value.int .i64 t.1), (Value.int .i64 t.2)])] [] []
theorem x27_1 (s0 : St) (p0 : (List (Int × Int))) (A0 : Option Addr) (c0 : Nat) (h0 : Sr (rP (rI .i64) (rI .i64)) s0 A0 c0 p0) (i15 : Nat) (t : (Int ⊕ (Int × Int))) (e : X) (g : Regs) (s : St) (h : Ex27_1 s0 p0 A0 c0 h0 i15 t e g s) : e ≠ .normal := by
  rcases t with t | t
  · obtain ⟨h, _⟩ := h
    rw [h]; intro hh; cases hh
  · obtain ⟨h, _⟩ := h
    rw [h]; intro hh; cases hh
def pb27_1 (n : Nat) (p0 : (List (Int × Int))) (t : Int) : Option (Int ⊕ (Int ⊕ (Int × Int))) :=
  (if (decide ((t : Int) < ((p0).length : Nat))) then ((rd p0 t (fun x83 => (pj (fun (b117 : Bool) => if b117 then ((p28 n 4 t).bind fun r120 => (((some (.inr (.inr (r120.1, r120.2))))))) else (pj (fun (b172 : Bool) => if b172 then ((p28 n 11 t).bind fun r175 => (((some (.inr (.inr (r175.1, r175.2))))))) else (((some (.inl (IntKind.wrap .i64 (t + 1))))))) (fun J171 => if ((t : Int) == 0) then (if ((x83.1 : Int) != 0) then ((J171 true)) else (if (decide ((t : Int) > 0)) then (rd p0 (IntKind.wrap .i64 (t - 1)) (fun x134 => (J171 (decide ((x83.1 : Int) ≤ x134.1))))) else ((J171 false)))) else (if (decide ((t : Int) > 0)) then (rd p0 (IntKind.wrap .i64 (t - 1)) (fun x154 => (J171 (decide ((x83.1 : Int) ≤ x154.1))))) else ((J171 false)))))) (fun J116 => if (decide ((x83.1 : Int) < 0)) then ((J116 true)) else (if (decide ((x83.1 : Int) ≥ 60000)) then ((J116 true)) else (if (decide ((x83.2 : Int) < 1)) then ((J116 true)) else ((J116 (decide ((x83.2 : Int) > 16000))))))))))) else (((some (.inr (.inl t))))))
theorem b27_1 (n : Nat) (s0 : St) (p0 : (List (Int × Int))) (A0 : Option Addr) (c0 : Nat) (h0 : Sr (rP (rI .i64) (rI .i64)) s0 A0 c0 p0) (i15 : Nat) (x14 : Int) (g : Regs) (s80 : St) (K : Kont) (Q : Out → St → Prop) (h : Inv27_1 s0 p0 A0 c0 h0 i15 x14 g s80) :
    Rf (pb27_1 n p0 x14) (fun r => ∀ e g' s', LK (Inv27_1 s0 p0 A0 c0 h0 i15) (Ex27_1 s0 p0 A0 c0 h0 i15) r e g' s' → Ev (K e g' s') Q) (fun _ => Q) (kBody E 27 n [.b, .b, .a, .b, .a, .a] g s80 K) := by
  obtain ⟨rfl, C81⟩ := h
  rw [e27_body0 n]
  unfold pb27_1
  refine Rf.gen fun H Q hH hQ => ?_
  refine Rf.ite ?_ ?_
  · refine Rf.elt (r := (rP (rI .i64) (rI .i64))) (C81.sr0 rfl h0) rfl fun x83 i84 o85 c86 r87 h88 => ?_
    obtain ⟨c93, c94, rfl, r95, r96⟩ := rP_elim r87
    obtain rfl := rI_elim r95
    obtain rfl := rI_elim r96
    refine Rf.ldI (h88.at 0 rfl) ?_
    refine Rf.ldI (h88.at 1 rfl) ?_
    refine Rf.new C81 fun s99 (C100 : Cx s0.next [] [] s0 s99 [(s80.next, AObj.box 38 [(Value.int .i64 0), (Value.int .i64 0)]), (i15, AObj.box 24 [(Value.int .i64 0), (Value.int .i64 0)])] [] []) => ?_
    refine Rf.sto 0 C100 rfl (by simp) rfl fun s102 (C103 : Cx s0.next [] [] s0 s102 [(s80.next, AObj.box 38 [(Value.int .i64 x83.1), (Value.int .i64 x83.2)]), (i15, AObj.box 24 [(Value.int .i64 0), (Value.int .i64 0)])] [] []) => ?_
    refine Rf.pj fun J116 J116' hJ116 hJ116' => ?_
    have J116h : ∀ (b117 : Bool) (_ : Cx s0.next [] [] s0 s102 [(s80.next, AObj.box 38 [(Value.int .i64 x83.1), (Value.int .i64 x83.2)]), (i15, AObj.box 24 [(Value.int .i64 0), (Value.int .i64 0)])] [] []), Rf (J116 b117) H Q (J116' b117) := by
      subst hJ116
      subst hJ116'
      intro b117 C119
      refine Rf.ite ?_ ?_
      · refine Rf.call0 C119 (t28 n 4 x14 s102) ?_
        rintro r120 _ s121 rfl h124
        have C125 : Cx s0.next [] [] s0 s121 [(s80.next, AObj.box 38 [(Value.int .i64 x83.1), (Value.int .i64 x83.2)]), (i15, AObj.box 24 [(Value.int .i64 0), (Value.int .i64 0)])] [] [] := h124 [] (by simp) List.Pairwise.nil
        refine (Rf.asAgg (Rf.unc (Rf.asI (Rf.unc (Rf.asI (Rf.unn ?_))))))
        refine Rf.sto 1 C125 rfl (by simp) rfl fun s126 (C127 : Cx s0.next [] [] s0 s126 [(s80.next, AObj.box 38 [(Value.int .i64 x83.1), (Value.int .i64 x83.2)]), (i15, AObj.box 24 [(Value.int .i64 r120.1), (Value.int .i64 r120.2)])] [] []) => ?_
        subst hH; subst hQ
        exact Rf.leaf fun h => h _ _ _ ⟨rfl, rfl, (C127.sub (List.Sublist.cons _ (List.Sublist.cons_cons _ List.Sublist.slnil)) (List.Sublist.refl _) (List.Sublist.refl _))⟩
      · refine Rf.pj fun J171 J171' hJ171 hJ171' => ?_
        have J171h : ∀ (b172 : Bool) (_ : Cx s0.next [] [] s0 s102 [(i15, AObj.box 24 [(Value.int .i64 0), (Value.int .i64 0)])] [] []), Rf (J171 b172) H Q (J171' b172) := by
          subst hJ171
          subst hJ171'
          intro b172 C174
          refine Rf.ite ?_ ?_
          · refine Rf.call0 C174 (t28 n 11 x14 s102) ?_
            rintro r175 _ s176 rfl h179
            have C180 : Cx s0.next [] [] s0 s176 [(i15, AObj.box 24 [(Value.int .i64 0), (Value.int .i64 0)])] [] [] := h179 [] (by simp) List.Pairwise.nil
            refine (Rf.asAgg (Rf.unc (Rf.asI (Rf.unc (Rf.asI (Rf.unn ?_))))))
            refine Rf.sto 0 C180 rfl (by simp) rfl fun s181 (C182 : Cx s0.next [] [] s0 s181 [(i15, AObj.box 24 [(Value.int .i64 r175.1), (Value.int .i64 r175.2)])] [] []) => ?_
            subst hH; subst hQ
            exact Rf.leaf fun h => h _ _ _ ⟨rfl, rfl, (C182.sub (List.Sublist.refl _) (List.Sublist.refl _) (List.Sublist.refl _))⟩
          · subst hH; subst hQ
            exact Rf.leaf fun h => h _ _ _ ⟨rfl, rfl, (C174.sub (List.Sublist.refl _) (List.Sublist.refl _) (List.Sublist.refl _))⟩
        clear hJ171 hJ171'
        refine Rf.ite ?_ ?_
        · refine Rf.ldI (C119.at m0 rfl) ?_
          refine Rf.ite ?_ ?_
          · exact J171h true (C119.sub (List.Sublist.cons _ (List.Sublist.cons_cons _ List.Sublist.slnil)) (List.Sublist.refl _) (List.Sublist.refl _))
          · refine Rf.ite ?_ ?_
            · refine Rf.ldI (C119.at m0 rfl) ?_
              refine Rf.elt (r := (rP (rI .i64) (rI .i64))) (C119.sr0 rfl h0) rfl fun x134 i135 o136 c137 r138 h139 => ?_
              obtain ⟨c144, c145, rfl, r146, r147⟩ := rP_elim r138
              obtain rfl := rI_elim r146
              obtain rfl := rI_elim r147
              refine Rf.ldI (h139.at 0 rfl) ?_
              exact J171h (decide ((x83.1 : Int) ≤ x134.1)) (C119.sub (List.Sublist.cons _ (List.Sublist.cons_cons _ List.Sublist.slnil)) (List.Sublist.refl _) (List.Sublist.refl _))
            · exact J171h false (C119.sub (List.Sublist.cons _ (List.Sublist.cons_cons _ List.Sublist.slnil)) (List.Sublist.refl _) (List.Sublist.refl _))
        · refine Rf.ite ?_ ?_
          · refine Rf.ldI (C119.at m0 rfl) ?_
            refine Rf.elt (r := (rP (rI .i64) (rI .i64))) (C119.sr0 rfl h0) rfl fun x154 i155 o156 c157 r158 h159 => ?_
            obtain ⟨c164, c165, rfl, r166, r167⟩ := rP_elim r158
            obtain rfl := rI_elim r166
            obtain rfl := rI_elim r167
            refine Rf.ldI (h159.at 0 rfl) ?_
            exact J171h (decide ((x83.1 : Int) ≤ x154.1)) (C119.sub (List.Sublist.cons _ (List.Sublist.cons_cons _ List.Sublist.slnil)) (List.Sublist.refl _) (List.Sublist.refl _))
          · exact J171h false (C119.sub (List.Sublist.cons _ (List.Sublist.cons_cons _ List.Sublist.slnil)) (List.Sublist.refl _) (List.Sublist.refl _))
    clear hJ116 hJ116'
    refine Rf.ldI (C103.at m0 rfl) ?_
    refine Rf.ite ?_ ?_
    · exact J116h true (C103.sub (List.Sublist.refl _) (List.Sublist.refl _) (List.Sublist.refl _))
    · refine Rf.ldI (C103.at m0 rfl) ?_
      refine Rf.ite ?_ ?_
      · exact J116h true (C103.sub (List.Sublist.refl _) (List.Sublist.refl _) (List.Sublist.refl _))
      · refine Rf.ldI (C103.at m0 rfl) ?_
        refine Rf.ite ?_ ?_
        · exact J116h true (C103.sub (List.Sublist.refl _) (List.Sublist.refl _) (List.Sublist.refl _))
        · refine Rf.ldI (C103.at m0 rfl) ?_
          exact J116h (decide ((x83.2 : Int) > 16000)) (C103.sub (List.Sublist.refl _) (List.Sublist.refl _) (List.Sublist.refl _))
  · subst hH; subst hQ
    exact Rf.leaf fun h => h _ _ _ ⟨rfl, rfl, (C81.sub (List.Sublist.refl _) (List.Sublist.refl _) (List.Sublist.refl _))⟩
abbrev P27 (N : Nat) (X : List Nat) (r : (Int × Int)) (v : Value) (s : St) : Prop := v = (Value.agg #[(Value.int .i64 r.1), (Value.int .i64 r.2)])
def p27 : Nat → (List (Int × Int)) → Option (Int × Int)
  | 0, _ => none
  | n + 1, p0 => ((if (decide ((((p0).length : Nat) : Int) > 60000)) then ((p28 n 2 (-1)).bind fun r4 => ((some (r4.1, r4.2)))) else ((((loopP (pb27_1 n p0) n 0).bind fun t326 => match t326 with | (.inl t186) => ((some (0, 0))) | (.inr t257) => (some (t257.1, t257.2)))))))
theorem t27 (k : Nat) (p0 : (List (Int × Int))) (s0 : St) {A0 : Option Addr} {c0 : Nat} (h0 : Sr (rP (rI .i64) (rI .i64)) s0 A0 c0 p0) :
    Rf (p27 k p0) (fun _ => True) (fun r => RtC s0.next [] [] s0 (P27 s0.next [] r)) (acall E k 27 [(Value.slice A0 (p0).length c0)] s0) := by
  cases k with
  | zero => exact Rf.none
  | succ n =>
    rw [e27 n]
    rw [p27]
    refine Rf.gen fun H Q hH hQ => ?_
    have C0 : Cx s0.next [] [] s0 s0 [] [] [] := Cx.start s0
    refine Rf.new C0 fun s1 (C2 : Cx s0.next [] [] s0 s1 [(s0.next, AObj.box 24 [(Value.int .i64 0), (Value.int .i64 0)])] [] []) => ?_
    refine Rf.ite ?_ ?_
    · refine Rf.call0 C2 (t28 n 2 (-1) s1) ?_
      rintro r4 _ s5 rfl h8
      have C9 : Cx s0.next [] [] s0 s5 [(s0.next, AObj.box 24 [(Value.int .i64 0), (Value.int .i64 0)])] [] [] := h8 [] (by simp) List.Pairwise.nil
      refine (Rf.asAgg (Rf.unc (Rf.asI (Rf.unc (Rf.asI (Rf.unn ?_))))))
      refine Rf.sto 0 C9 rfl (by simp) rfl fun s10 (C11 : Cx s0.next [] [] s0 s10 [(s0.next, AObj.box 24 [(Value.int .i64 r4.1), (Value.int .i64 r4.2)])] [] []) => ?_
      refine Rf.ldI (C11.at m0 rfl) ?_
      refine Rf.ldI (C11.at m0 rfl) ?_
      subst hH; subst hQ
      exact Rf.leaf fun _ => Ev.done (Rf.ret C11 rfl)
    · refine Rf.loop (Inv := Inv27_1 s0 p0 A0 c0 h0 s0.next) (Ex := Ex27_1 s0 p0 A0 c0 h0 s0.next) (x27_1 s0 p0 A0 c0 h0 s0.next) (fun t g s K Q h => b27_1 n s0 p0 A0 c0 h0 s0.next t g s K Q h) n _ _ _ ⟨rfl, (C2.sub (List.Sublist.refl _) (List.Sublist.refl _) (List.Sublist.refl _))⟩ ?_
      intro t e g s h
      rcases t with t186 | t257
      · generalize s = s251 at h ⊢
        obtain ⟨rfl, rfl, C252⟩ := h
        rw [e27_after0_exit0 n]
        refine Rf.sto 0 C252 rfl (by simp) rfl fun s253 (C254 : Cx s0.next [] [] s0 s253 [(s0.next, AObj.box 24 [(Value.int .i64 0), (Value.int .i64 0)])] [] []) => ?_
        refine Rf.ldI (C254.at m0 rfl) ?_
        refine Rf.ldI (C254.at m0 rfl) ?_
        subst hH; subst hQ
        exact Rf.leaf fun _ => Ev.done (Rf.ret C254 rfl)
      · generalize s = s322 at h ⊢
        obtain ⟨rfl, rfl, C323⟩ := h
        rw [e27_after0_ret n]
        refine Rf.ldI (C323.at m0 rfl) ?_
        refine Rf.ldI (C323.at m0 rfl) ?_
        subst hH; subst hQ
        exact Rf.leaf fun _ => Ev.done (Rf.ret C323 rfl)
-- 30 "brindlewood/tables.Line$1"
abbrev P30 (N : Nat) (X : List Nat) (r : Int) (v : Value) (s : St) : Prop := v = (Value.int .i64 r)
def p30 : Nat → (Int × Int) → Int → Option Int
  | 0, _, _ => none
  | n + 1, p0, p1 => ((some (IntKind.wrap .i64 (p0.1 - p1))))
theorem t30 (k : Nat) (p0 : (Int × Int)) (p1 : Int) (s0 : St) :
    Rf (p30 k p0 p1) (fun _ => True) (fun r => RtC s0.next [] [] s0 (P30 s0.next [] r)) (acall E k 30 [(Value.agg #[(Value.int .i64 p0.1), (Value.int .i64 p0.2)]), (Value.int .i64 p1)] s0) := by
  cases k with
  | zero => exact Rf.none
  | succ n =>
    rw [e30 n]
    rw [p30]
    refine Rf.gen fun H Q hH hQ => ?_
    have C0 : Cx s0.next [] [] s0 s0 [] [] [] := Cx.start s0
    refine Rf.new C0 fun s1 (C2 : Cx s0.next [] [] s0 s1 [(s0.next, AObj.box 38 [(Value.int .i64 p0.1), (Value.int .i64 p0.2)])] [] []) => ?_
    refine Rf.ldI (C2.at m0 rfl) ?_
    subst hH; subst hQ
    exact Rf.leaf fun _ => Ev.done (Rf.ret C2 rfl)
-- 29_30 "slices.BinarySearchFunc[[]brindlewood/api.LineMark,brindlewood/api.LineMark,int]"
abbrev Inv29_30_1 (s0 : St) (p0 : (List (Int × Int))) (p1 : Int) (A0 : Option Addr) (c0 : Nat) (h0 : Sr (rP (rI .i64) (rI .i64)) s0 A0 c0 p0)  (t : (Int × Int)) (g : Regs) (s : St) : Prop := g = (rg 49 [(0, (Value.slice A0 (p0).length c0)), (1, (Value.int .i64 p1)), (2, (Value.func (.func 30) #[] #[])), (8, (Value.int .i64 ((p0).length : Nat))), (9, (Value.int .i64 t.1)), (10, (Value.int .i64 t.2))]) ∧ Cx s0.next [] [] s0 s [] [] []
abbrev Ex29_30_1 (s0 : St) (p0 : (List (Int × Int))) (p1 : Int) (A0 : Option Addr) (c0 : Nat) (h0 : Sr (rP (rI .i64) (rI .i64)) s0 A0 c0 p0)  (t : (Int × Int)) (e : X) (g : Regs) (s : St) : Prop := e = .exit 0 ∧ g = (rg 49 [(0, (Value.slice A0 (p0).length c0)), (1, (Value.int .i64 p1)), (2, (Value.func (.func 30) #[] #[])), (8, (Value.int .i64 ((p0).length : Nat))), (9, (Value.int .i64 t.1)), (10, (Value.int .i64 t.2)), (17, (Value.bool false))]) ∧ Cx s0.next [] [] s0 s [] [] []
theorem x29_30_1 (s0 : St) (p0 : (List (Int × Int))) (p1 : Int) (A0 : Option Addr) (c0 : Nat) (h0 : Sr (rP (rI .i64) (rI .i64)) s0 A0 c0 p0)  (t : (Int × Int)) (e : X) (g : Regs) (s : St) (h : Ex29_30_1 s0 p0 p1 A0 c0 h0  t e g s) : e ≠ .normal := by
  obtain ⟨h, _⟩ := h
  rw [h]; intro hh; cases hh
def pb29_30_1 (n : Nat) (p0 : (List (Int × Int))) (p1 : Int) (t : (Int × Int)) : Option ((Int × Int) ⊕ (Int × Int)) :=
  (if (decide ((t.1 : Int) < t.2)) then ((shrP .u64 (IntKind.wrap .u64 (IntKind.wrap .i64 (t.1 + t.2))) 1 (fun x55 => (rd p0 (IntKind.wrap .i64 x55) (fun x56 => (p30 n (x56.1, x56.2) p1).bind fun r72 => (if (decide ((r72 : Int) < 0)) then ((some (.inl ((IntKind.wrap .i64 ((IntKind.wrap .i64 x55) + 1)), t.2)))) else ((some (.inl (t.1, (IntKind.wrap .i64 x55))))))))))) else (((some (.inr (t.1, t.2))))))
theorem b29_30_1 (n : Nat) (s0 : St) (p0 : (List (Int × Int))) (p1 : Int) (A0 : Option Addr) (c0 : Nat) (h0 : Sr (rP (rI .i64) (rI .i64)) s0 A0 c0 p0)  (t : (Int × Int)) (g : Regs) (s52 : St) (K : Kont) (Q : Out → St → Prop) (h : Inv29_30_1 s0 p0 p1 A0 c0 h0  t g s52) :
    Rf (pb29_30_1 n p0 p1 t) (fun r => ∀ e g' s', LK (Inv29_30_1 s0 p0 p1 A0 c0 h0 ) (Ex29_30_1 s0 p0 p1 A0 c0 h0 ) r e g' s' → Ev (K e g' s') Q) (fun _ => Q) (kBody E 29 n [.b, .b, .b, .a, .a, .a] g s52 K) := by
  obtain ⟨x1, x2⟩ := t
  obtain ⟨rfl, C53⟩ := h
  rw [e29_30_body0 n]
  unfold pb29_30_1
  refine Rf.gen fun H Q hH hQ => ?_
  try dsimp only
  refine Rf.ite ?_ ?_
  · refine Rf.shrI fun x55 => ?_
    refine Rf.elt (r := (rP (rI .i64) (rI .i64))) (C53.sr0 rfl h0) rfl fun x56 i57 o58 c59 r60 h61 => ?_
    obtain ⟨c66, c67, rfl, r68, r69⟩ := rP_elim r60
    obtain rfl := rI_elim r68
    obtain rfl := rI_elim r69
    refine Rf.ldI (h61.at 0 rfl) ?_
    refine Rf.ldI (h61.at 1 rfl) ?_
    refine Rf.call0 C53 (t30 n (x56.1, x56.2) p1 s52) ?_
    rintro r72 _ s73 rfl h75
    have C76 : Cx s0.next [] [] s0 s73 [] [] [] := h75 [] (by simp) List.Pairwise.nil
    refine (Rf.asI ?_)
    refine Rf.ite ?_ ?_
    · subst hH; subst hQ
      exact Rf.leaf fun h => h _ _ _ ⟨rfl, rfl, (C76.sub (List.Sublist.refl _) (List.Sublist.refl _) (List.Sublist.refl _))⟩
    · subst hH; subst hQ
      exact Rf.leaf fun h => h _ _ _ ⟨rfl, rfl, (C76.sub (List.Sublist.refl _) (List.Sublist.refl _) (List.Sublist.refl _))⟩
  · subst hH; subst hQ
    exact Rf.leaf fun h => h _ _ _ ⟨rfl, rfl, (C53.sub (List.Sublist.refl _) (List.Sublist.refl _) (List.Sublist.refl _))⟩
abbrev P29_30 (N : Nat) (X : List Nat) (r : (Int × Bool)) (v : Value) (s : St) : Prop := v = (Value.tuple #[(Value.int .i64 r.1), (Value.bool r.2)])
def p29_30 : Nat → (List (Int × Int)) → Int → Option (Int × Bool)
  | 0, _, _ => none
  | n + 1, p0, p1 => ((((loopP (pb29_30_1 n p0 p1) n (0, ((p0).length : Nat))).bind fun t79 => pj (fun (x153 : Int) (b154 : Bool) => some (x153, b154)) (fun J152 => if (decide ((t79.1 : Int) < ((p0).length : Nat))) then (rd p0 t79.1 (fun x131 => (p30 n (x131.1, x131.2) p1).bind fun r147 => (J152 t79.1 ((r147 : Int) == 0)))) else ((J152 t79.1 false))))))
theorem t29_30 (k : Nat) (p0 : (List (Int × Int))) (p1 : Int) (s0 : St) {A0 : Option Addr} {c0 : Nat} (h0 : Sr (rP (rI .i64) (rI .i64)) s0 A0 c0 p0) :
    Rf (p29_30 k p0 p1) (fun _ => True) (fun r => RtC s0.next [] [] s0 (P29_30 s0.next [] r)) (acall E k 29 [(Value.slice A0 (p0).length c0), (Value.int .i64 p1), (Value.func (.func 30) #[] #[])] s0) := by
  cases k with
  | zero => exact Rf.none
  | succ n =>
    rw [e29_30 n]
    rw [p29_30]
    refine Rf.gen fun H Q hH hQ => ?_
    have C0 : Cx s0.next [] [] s0 s0 [] [] [] := Cx.start s0
    refine Rf.loop (Inv := Inv29_30_1 s0 p0 p1 A0 c0 h0 ) (Ex := Ex29_30_1 s0 p0 p1 A0 c0 h0 ) (x29_30_1 s0 p0 p1 A0 c0 h0 ) (fun t g s K Q h => b29_30_1 n s0 p0 p1 A0 c0 h0  t g s K Q h) n _ _ _ ⟨rfl, (C0.sub (List.Sublist.refl _) (List.Sublist.refl _) (List.Sublist.refl _))⟩ ?_
    intro t79 e g s129 h
    obtain ⟨rfl, rfl, C130⟩ := h
    rw [e29_30_after0_exit0 n]
    refine Rf.pj fun J152 J152' hJ152 hJ152' => ?_
    have J152h : ∀ (x153 : Int) (b154 : Bool) (s157 : St) (_ : Cx s0.next [] [] s0 s157 [] [] []), Rf (J152 x153 b154) H Q (J152' x153 b154 s157) := by
      subst hJ152
      subst hJ152'
      intro x153 b154 s157 C158
      subst hH; subst hQ
      exact Rf.leaf fun _ => Ev.done (Rf.ret C158 rfl)
    clear hJ152 hJ152'
    refine Rf.ite ?_ ?_
    · refine Rf.elt (r := (rP (rI .i64) (rI .i64))) (C130.sr0 rfl h0) rfl fun x131 i132 o133 c134 r135 h136 => ?_
      obtain ⟨c141, c142, rfl, r143, r144⟩ := rP_elim r135
      obtain rfl := rI_elim r143
      obtain rfl := rI_elim r144
      refine Rf.ldI (h136.at 0 rfl) ?_
      refine Rf.ldI (h136.at 1 rfl) ?_
      refine Rf.call0 C130 (t30 n (x131.1, x131.2) p1 s129) ?_
      rintro r147 _ s148 rfl h150
      have C151 : Cx s0.next [] [] s0 s148 [] [] [] := h150 [] (by simp) List.Pairwise.nil
      refine (Rf.asI ?_)
      exact J152h t79.1 ((r147 : Int) == 0) _ (C151.sub (List.Sublist.refl _) (List.Sublist.refl _) (List.Sublist.refl _))
    · exact J152h t79.1 false _ (C130.sub (List.Sublist.refl _) (List.Sublist.refl _) (List.Sublist.refl _))
-- 6 "brindlewood/tables.Line"
abbrev P6 (N : Nat) (X : List Nat) (r : (Int × (Int × Int))) (v : Value) (s : St) : Prop := v = (Value.tuple #[(Value.int .i64 r.1), (Value.agg #[(Value.int .i64 r.2.1), (Value.int .i64 r.2.2)])])
def p6 : Nat → (List (Int × Int)) → Int → Option (Int × (Int × Int))
  | 0, _, _ => none
  | n + 1, p0, p1 => ((p27 n p0).bind fun r4 => ((if (!(((r4.1 : Int) == 0) && (((r4.2 : Int) == 0) && true))) then (((some (0, (r4.1, r4.2))))) else ((pj (fun (b24 : Bool) => if b24 then ((p28 n 4 (-2)).bind fun r27 => ((some (0, (r27.1, r27.2))))) else (((p29_30 n p0 p1).bind fun r37 => (pj (fun (x44 : Int) => (if (decide ((x44 : Int) < 0)) then ((p28 n 12 (-2)).bind fun r48 => ((some (0, (r48.1, r48.2))))) else ((rd p0 x44 (fun x58 => (some (x58.2, (0, 0)))))))) (fun J43 => (if (!r37.2) then ((J43 (IntKind.wrap .i64 (r37.1 - 1)))) else ((J43 r37.1)))))))) (fun J23 => if (decide ((p1 : Int) < 0)) then ((J23 true)) else ((J23 (decide ((p1 : Int) ≥ 60000))))))))))
theorem t6 (k : Nat) (p0 : (List (Int × Int))) (p1 : Int) (s0 : St) {A0 : Option Addr} {c0 : Nat} (h0 : Sr (rP (rI .i64) (rI .i64)) s0 A0 c0 p0) :
    Rf (p6 k p0 p1) (fun _ => True) (fun r => RtC s0.next [] [] s0 (P6 s0.next [] r)) (acall E k 6 [(Value.slice A0 (p0).length c0), (Value.int .i64 p1)] s0) := by
  cases k with
  | zero => exact Rf.none
  | succ n =>
    rw [e6 n]
    rw [p6]
    refine Rf.gen fun H Q hH hQ => ?_
    have C0 : Cx s0.next [] [] s0 s0 [] [] [] := Cx.start s0
    refine Rf.new C0 fun s1 (C2 : Cx s0.next [] [] s0 s1 [(s0.next, AObj.box 24 [(Value.int .i64 0), (Value.int .i64 0)])] [] []) => ?_
    refine Rf.call0 C2 (t27 n p0 s1 (C2.sr0 rfl h0)) ?_
    rintro r4 _ s5 rfl h8
    have C9 : Cx s0.next [] [] s0 s5 [(s0.next, AObj.box 24 [(Value.int .i64 0), (Value.int .i64 0)])] [] [] := h8 [] (by simp) List.Pairwise.nil
    refine (Rf.asAgg (Rf.unc (Rf.asI (Rf.unc (Rf.asI (Rf.unn ?_))))))
    refine Rf.new C9 fun s10 (C11 : Cx s0.next [] [] s0 s10 [(s5.next, AObj.box 24 [(Value.int .i64 0), (Value.int .i64 0)]), (s0.next, AObj.box 24 [(Value.int .i64 0), (Value.int .i64 0)])] [] []) => ?_
    refine Rf.sto 0 C11 rfl (by simp) rfl fun s13 (C14 : Cx s0.next [] [] s0 s13 [(s5.next, AObj.box 24 [(Value.int .i64 r4.1), (Value.int .i64 r4.2)]), (s0.next, AObj.box 24 [(Value.int .i64 0), (Value.int .i64 0)])] [] []) => ?_
    refine Rf.ldI (C14.at m0 rfl) ?_
    refine Rf.ldI (C14.at m0 rfl) ?_
    refine Rf.ite ?_ ?_
    · refine Rf.ldI (C14.at m0 rfl) ?_
      refine Rf.ldI (C14.at m0 rfl) ?_
      refine Rf.sto 1 C14 rfl (by simp) rfl fun s19 (C20 : Cx s0.next [] [] s0 s19 [(s5.next, AObj.box 24 [(Value.int .i64 r4.1), (Value.int .i64 r4.2)]), (s0.next, AObj.box 24 [(Value.int .i64 r4.1), (Value.int .i64 r4.2)])] [] []) => ?_
      refine Rf.ldI (C20.at m1 rfl) ?_
      refine Rf.ldI (C20.at m1 rfl) ?_
      subst hH; subst hQ
      exact Rf.leaf fun _ => Ev.done (Rf.ret C20 rfl)
    · refine Rf.pj fun J23 J23' hJ23 hJ23' => ?_
      have J23h : ∀ (b24 : Bool) (_ : Cx s0.next [] [] s0 s13 [(s0.next, AObj.box 24 [(Value.int .i64 0), (Value.int .i64 0)])] [] []), Rf (J23 b24) H Q (J23' b24) := by
        subst hJ23
        subst hJ23'
        intro b24 C26
        refine Rf.ite ?_ ?_
        · refine Rf.call0 C26 (t28 n 4 (-2) s13) ?_
          rintro r27 _ s28 rfl h31
          have C32 : Cx s0.next [] [] s0 s28 [(s0.next, AObj.box 24 [(Value.int .i64 0), (Value.int .i64 0)])] [] [] := h31 [] (by simp) List.Pairwise.nil
          refine (Rf.asAgg (Rf.unc (Rf.asI (Rf.unc (Rf.asI (Rf.unn ?_))))))
          refine Rf.sto 0 C32 rfl (by simp) rfl fun s33 (C34 : Cx s0.next [] [] s0 s33 [(s0.next, AObj.box 24 [(Value.int .i64 r27.1), (Value.int .i64 r27.2)])] [] []) => ?_
          refine Rf.ldI (C34.at m0 rfl) ?_
          refine Rf.ldI (C34.at m0 rfl) ?_
          subst hH; subst hQ
          exact Rf.leaf fun _ => Ev.done (Rf.ret C34 rfl)
        · refine Rf.call0 C26 (t29_30 n p0 p1 s13 (C26.sr0 rfl h0)) ?_
          rintro r37 _ s38 rfl h41
          have C42 : Cx s0.next [] [] s0 s38 [(s0.next, AObj.box 24 [(Value.int .i64 0), (Value.int .i64 0)])] [] [] := h41 [] (by simp) List.Pairwise.nil
          refine (Rf.asTup (Rf.unc (Rf.asI (Rf.unc (Rf.asB (Rf.unn ?_))))))
          refine Rf.pj fun J43 J43' hJ43 hJ43' => ?_
          have J43h : ∀ (e46 : Value) (x44 : Int) (_ : Cx s0.next [] [] s0 s38 [(s0.next, AObj.box 24 [(Value.int .i64 0), (Value.int .i64 0)])] [] []), Rf (J43 x44) H Q (J43' x44 e46) := by
            subst hJ43
            subst hJ43'
            intro e46 x44 C47
            refine Rf.ite ?_ ?_
            · refine Rf.call0 C47 (t28 n 12 (-2) s38) ?_
              rintro r48 _ s49 rfl h52
              have C53 : Cx s0.next [] [] s0 s49 [(s0.next, AObj.box 24 [(Value.int .i64 0), (Value.int .i64 0)])] [] [] := h52 [] (by simp) List.Pairwise.nil
              refine (Rf.asAgg (Rf.unc (Rf.asI (Rf.unc (Rf.asI (Rf.unn ?_))))))
              refine Rf.sto 0 C53 rfl (by simp) rfl fun s54 (C55 : Cx s0.next [] [] s0 s54 [(s0.next, AObj.box 24 [(Value.int .i64 r48.1), (Value.int .i64 r48.2)])] [] []) => ?_
              refine Rf.ldI (C55.at m0 rfl) ?_
              refine Rf.ldI (C55.at m0 rfl) ?_
              subst hH; subst hQ
              exact Rf.leaf fun _ => Ev.done (Rf.ret C55 rfl)
            · refine Rf.elt (r := (rP (rI .i64) (rI .i64))) (C47.sr0 rfl h0) rfl fun x58 i59 o60 c61 r62 h63 => ?_
              obtain ⟨c68, c69, rfl, r70, r71⟩ := rP_elim r62
              obtain rfl := rI_elim r70
              obtain rfl := rI_elim r71
              refine Rf.ldI (h63.at 1 rfl) ?_
              refine Rf.sto 0 C47 rfl (by simp) rfl fun s75 (C76 : Cx s0.next [] [] s0 s75 [(s0.next, AObj.box 24 [(Value.int .i64 0), (Value.int .i64 0)])] [] []) => ?_
              refine Rf.ldI (C76.at m0 rfl) ?_
              refine Rf.ldI (C76.at m0 rfl) ?_
              subst hH; subst hQ
              exact Rf.leaf fun _ => Ev.done (Rf.ret C76 rfl)
          clear hJ43 hJ43'
          refine Rf.ite ?_ ?_
          · exact J43h _ (IntKind.wrap .i64 (r37.1 - 1)) (C42.sub (List.Sublist.refl _) (List.Sublist.refl _) (List.Sublist.refl _))
          · exact J43h _ r37.1 (C42.sub (List.Sublist.refl _) (List.Sublist.refl _) (List.Sublist.refl _))
      clear hJ23 hJ23'
      refine Rf.ite ?_ ?_
      · exact J23h true (C14.sub (List.Sublist.cons _ (List.Sublist.cons_cons _ List.Sublist.slnil)) (List.Sublist.refl _) (List.Sublist.refl _))
      · exact J23h (decide ((p1 : Int) ≥ 60000)) (C14.sub (List.Sublist.cons _ (List.Sublist.cons_cons _ List.Sublist.slnil)) (List.Sublist.refl _) (List.Sublist.refl _))
-- 7 "brindlewood/tables.Merge"
abbrev Inv7_1 (s0 : St) (p0 : (List (Int × Int))) (A0 : Option Addr) (c0 : Nat) (h0 : Sr (rP (rI .i64) (rI .i64)) s0 A0 c0 p0) (i31 : Nat) (t : ((List (Int × Int)) × Int)) (g : Regs) (s : St) : Prop := ∃ (A26 : Option Addr) (c27 : Nat) (e29 : Nat), g = (rg 43 [(3, (Value.pointer (some ⟨i31, 0, none⟩))), (5, (Value.slice A26 (t.1).length c27)), (15, (Value.slice A0 (p0).length c0)), (16, (Value.int .i64 ((p0).length : Nat))), (17, (Value.int .i64 t.2))]) ∧ Cx s0.next [] [] s0 s [(i31, AObj.box 24 [(Value.int .i64 0), (Value.int .i64 0)])] [(On.mk (rP (rI .i64) (rI .i64)) t.1 A26 c27 38 false e29)] []
abbrev Ex7_1 (s0 : St) (p0 : (List (Int × Int))) (A0 : Option Addr) (c0 : Nat) (h0 : Sr (rP (rI .i64) (rI .i64)) s0 A0 c0 p0) (i31 : Nat) (t : ((List (Int × Int)) × Int)) (e : X) (g : Regs) (s : St) : Prop := ∃ (A150 : Option Addr) (c151 : Nat) (e153 : Nat), e = .exit 0 ∧ g = (rg 43 [(3, (Value.pointer (some ⟨i31, 0, none⟩))), (5, (Value.slice A150 (t.1).length c151)), (15, (Value.slice A0 (p0).length c0)), (16, (Value.int .i64 ((p0).length : Nat))), (17, (Value.int .i64 t.2)), (18, (Value.bool false))]) ∧ Cx s0.next [] [] s0 s [(i31, AObj.box 24 [(Value.int .i64 0), (Value.int .i64 0)])] [(On.mk (rP (rI .i64) (rI .i64)) t.1 A150 c151 38 false e153)] []
theorem x7_1 (s0 : St) (p0 : (List (Int × Int))) (A0 : Option Addr) (c0 : Nat) (h0 : Sr (rP (rI .i64) (rI .i64)) s0 A0 c0 p0) (i31 : Nat) (t : ((List (Int × Int)) × Int)) (e : X) (g : Regs) (s : St) (h : Ex7_1 s0 p0 A0 c0 h0 i31 t e g s) : e ≠ .normal := by
  obtain ⟨_, _, _, h, _⟩ := h
  rw [h]; intro hh; cases hh
def pb7_1 (n : Nat) (p0 : (List (Int × Int))) (t : ((List (Int × Int)) × Int)) : Option (((List (Int × Int)) × Int) ⊕ ((List (Int × Int)) × Int)) :=
  (if (decide ((t.2 : Int) < ((p0).length : Nat))) then ((pj (fun (y142 : (List (Int × Int))) => (some (.inl (y142, (IntKind.wrap .i64 (t.2 + 1)))))) (fun J138 => rd p0 t.2 (fun x78 => ((pj (fun (b121 : Bool) => if b121 then (apP 16 t.1 [(x78.1, x78.2)] (fun y132 => (J138 (t.1 ++ [(x78.1, x78.2)])))) else ((J138 t.1))) (fun J120 => if ((((t.1).length : Nat) : Int) == 0) then ((J120 true)) else (rd t.1 (IntKind.wrap .i64 (((t.1).length : Nat) - 1)) (fun x100 => (J120 ((x100.2 : Int) != x78.2))))))))))) else (((some (.inr (t.1, t.2))))))
theorem b7_1 (n : Nat) (s0 : St) (p0 : (List (Int × Int))) (A0 : Option Addr) (c0 : Nat) (h0 : Sr (rP (rI .i64) (rI .i64)) s0 A0 c0 p0) (i31 : Nat) (t : ((List (Int × Int)) × Int)) (g : Regs) (s75 : St) (K : Kont) (Q : Out → St → Prop) (h : Inv7_1 s0 p0 A0 c0 h0 i31 t g s75) :
    Rf (pb7_1 n p0 t) (fun r => ∀ e g' s', LK (Inv7_1 s0 p0 A0 c0 h0 i31) (Ex7_1 s0 p0 A0 c0 h0 i31) r e g' s' → Ev (K e g' s') Q) (fun _ => Q) (kBody E 7 n [.b, .b, .b, .a, .b, .a, .a] g s75 K) := by
  obtain ⟨y28, x30⟩ := t
  obtain ⟨A26, c27, e29, rfl, C76⟩ := h
  rw [e7_body0 n]
  unfold pb7_1
  refine Rf.gen fun H Q hH hQ => ?_
  try dsimp only
  refine Rf.ite ?_ ?_
  · refine Rf.pj fun J138 J138' hJ138 hJ138' => ?_
    have J138h : ∀ (e145 : Value) (e146 : Value) (A140 : Option Addr) (c141 : Nat) (e143 : Nat) (y142 : (List (Int × Int))) (s147 : St) (_ : Cx s0.next [] [] s0 s147 [(i31, AObj.box 24 [(Value.int .i64 0), (Value.int .i64 0)])] [(On.mk (rP (rI .i64) (rI .i64)) y142 A140 c141 38 false e143)] []), Rf (J138 y142) H Q (J138' (Value.slice A140 (y142).length c141) e145 e146 s147) := by
      subst hJ138
      subst hJ138'
      intro e145 e146 A140 c141 e143 y142 s147 C148
      subst hH; subst hQ
      exact Rf.leaf fun h => h _ _ _ ⟨rfl, _, _, _, rfl, (C148.sub (List.Sublist.refl _) (List.Sublist.refl _) (List.Sublist.refl _))⟩
    clear hJ138 hJ138'
    refine Rf.elt (r := (rP (rI .i64) (rI .i64))) (C76.sr0 rfl h0) rfl fun x78 i79 o80 c81 r82 h83 => ?_
    obtain ⟨c88, c89, rfl, r90, r91⟩ := rP_elim r82
    obtain rfl := rI_elim r90
    obtain rfl := rI_elim r91
    refine Rf.ldI (h83.at 0 rfl) ?_
    refine Rf.ldI (h83.at 1 rfl) ?_
    refine Rf.new C76 fun s94 (C95 : Cx s0.next [] [] s0 s94 [(s75.next, AObj.box 38 [(Value.int .i64 0), (Value.int .i64 0)]), (i31, AObj.box 24 [(Value.int .i64 0), (Value.int .i64 0)])] [(On.mk (rP (rI .i64) (rI .i64)) y28 A26 c27 38 false e29)] []) => ?_
    refine Rf.sto 0 C95 rfl (by simp) rfl fun s97 (C98 : Cx s0.next [] [] s0 s97 [(s75.next, AObj.box 38 [(Value.int .i64 x78.1), (Value.int .i64 x78.2)]), (i31, AObj.box 24 [(Value.int .i64 0), (Value.int .i64 0)])] [(On.mk (rP (rI .i64) (rI .i64)) y28 A26 c27 38 false e29)] []) => ?_
    refine Rf.asSl ?_
    refine Rf.pj fun J120 J120' hJ120 hJ120' => ?_
    have J120h : ∀ (b121 : Bool) (_ : Cx s0.next [] [] s0 s97 [(s75.next, AObj.box 38 [(Value.int .i64 x78.1), (Value.int .i64 x78.2)]), (i31, AObj.box 24 [(Value.int .i64 0), (Value.int .i64 0)])] [(On.mk (rP (rI .i64) (rI .i64)) y28 A26 c27 38 false e29)] []), Rf (J120 b121) H Q (J120' b121) := by
      subst hJ120
      subst hJ120'
      intro b121 C123
      refine Rf.ite ?_ ?_
      · refine Rf.ldI (C123.at m0 rfl) ?_
        refine Rf.ldI (C123.at m0 rfl) ?_
        refine Rf.newR (r := (rP (rI .i64) (rI .i64))) (xs := [(x78.1, x78.2)]) C123 rfl (many.cons (c := [(Value.int .i64 x78.1), (Value.int .i64 x78.2)]) (rP_mk rI_mk rI_mk) many.nil) fun s126 (C127 : Cx s0.next [] [] s0 s126 [(s75.next, AObj.box 38 [(Value.int .i64 x78.1), (Value.int .i64 x78.2)]), (i31, AObj.box 24 [(Value.int .i64 0), (Value.int .i64 0)])] [(On.mk (rP (rI .i64) (rI .i64)) [(x78.1, x78.2)] (some ⟨s97.next, 0, none⟩) 1 38 false s97.next), (On.mk (rP (rI .i64) (rI .i64)) y28 A26 c27 38 false e29)] []) => ?_
        refine Rf.kapp 1 C127 rfl rfl (by decide) (by decide) (Ap.sr u22 rfl (C127.srB m0)) fun A129 c130 e131 s134 (C135 : Cx s0.next [] [] s0 s134 [(s75.next, AObj.box 38 [(Value.int .i64 x78.1), (Value.int .i64 x78.2)]), (i31, AObj.box 24 [(Value.int .i64 0), (Value.int .i64 0)])] [(On.mk (rP (rI .i64) (rI .i64)) [(x78.1, x78.2)] (some ⟨s97.next, 0, none⟩) 1 38 false s97.next), (On.mk (rP (rI .i64) (rI .i64)) (y28 ++ [(x78.1, x78.2)]) A129 c130 38 false e131)] []) => ?_
        have C136 : Cx s0.next [] [] s0 s134 [(s75.next, AObj.box 38 [(Value.int .i64 x78.1), (Value.int .i64 x78.2)]), (i31, AObj.box 24 [(Value.int .i64 0), (Value.int .i64 0)])] [(On.mk (rP (rI .i64) (rI .i64)) (y28 ++ [(x78.1, x78.2)]) A129 c130 38 false e131)] [] := C135.sub (List.Sublist.refl _) (List.Sublist.cons _ (List.Sublist.cons_cons _ List.Sublist.slnil)) (List.Sublist.refl _)
        exact J138h _ _ A129 c130 e131 (y28 ++ [(x78.1, x78.2)]) _ (C136.sub (List.Sublist.cons _ (List.Sublist.cons_cons _ List.Sublist.slnil)) (List.Sublist.refl _) (List.Sublist.refl _))
      · exact J138h _ _ A26 c27 e29 y28 _ (C123.sub (List.Sublist.cons _ (List.Sublist.cons_cons _ List.Sublist.slnil)) (List.Sublist.refl _) (List.Sublist.refl _))
    clear hJ120 hJ120'
    refine Rf.ite ?_ ?_
    · exact J120h true (C98.sub (List.Sublist.refl _) (List.Sublist.refl _) (List.Sublist.refl _))
    · refine Rf.asSl ?_
      refine Rf.elt (r := (rP (rI .i64) (rI .i64))) (C98.srB m0) rfl fun x100 i101 o102 c103 r104 h105 => ?_
      obtain ⟨c110, c111, rfl, r112, r113⟩ := rP_elim r104
      obtain rfl := rI_elim r112
      obtain rfl := rI_elim r113
      refine Rf.ldI (h105.at 1 rfl) ?_
      refine Rf.ldI (C98.at m0 rfl) ?_
      exact J120h ((x100.2 : Int) != x78.2) (C98.sub (List.Sublist.refl _) (List.Sublist.refl _) (List.Sublist.refl _))
  · subst hH; subst hQ
    exact Rf.leaf fun h => h _ _ _ ⟨_, _, _, rfl, rfl, (C76.sub (List.Sublist.refl _) (List.Sublist.refl _) (List.Sublist.refl _))⟩
abbrev P7 (N : Nat) (X : List Nat) (r : ((List (Int × Int)) × (Int × Int))) (v : Value) (s : St) : Prop := ∃ (A0 : Option Addr) (c0 : Nat) (e0 : Nat), v = (Value.tuple #[(Value.slice A0 (r.1).length c0), (Value.agg #[(Value.int .i64 r.2.1), (Value.int .i64 r.2.2)])]) ∧ (On.mk (rP (rI .i64) (rI .i64)) r.1 A0 c0 38 false e0).holds N X s
def p7 : Nat → (List (Int × Int)) → Option ((List (Int × Int)) × (Int × Int))
  | 0, _ => none
  | n + 1, p0 => ((p27 n p0).bind fun r4 => ((if (!(((r4.1 : Int) == 0) && (((r4.2 : Int) == 0) && true))) then (((some (([] : (List (Int × Int))), (r4.1, r4.2))))) else (((((loopP (pb7_1 n p0) n (([] : List (Int × Int)), 0)).bind fun t155 => (some (t155.1, (0, 0))))))))))
theorem t7 (k : Nat) (p0 : (List (Int × Int))) (s0 : St) {A0 : Option Addr} {c0 : Nat} (h0 : Sr (rP (rI .i64) (rI .i64)) s0 A0 c0 p0) :
    Rf (p7 k p0) (fun _ => True) (fun r => RtC s0.next [] [] s0 (P7 s0.next [] r)) (acall E k 7 [(Value.slice A0 (p0).length c0)] s0) := by
  cases k with
  | zero => exact Rf.none
  | succ n =>
    rw [e7 n]
    rw [p7]
    refine Rf.gen fun H Q hH hQ => ?_
    have C0 : Cx s0.next [] [] s0 s0 [] [] [] := Cx.start s0
    refine Rf.new C0 fun s1 (C2 : Cx s0.next [] [] s0 s1 [(s0.next, AObj.box 24 [(Value.int .i64 0), (Value.int .i64 0)])] [] []) => ?_
    refine Rf.call0 C2 (t27 n p0 s1 (C2.sr0 rfl h0)) ?_
    rintro r4 _ s5 rfl h8
    have C9 : Cx s0.next [] [] s0 s5 [(s0.next, AObj.box 24 [(Value.int .i64 0), (Value.int .i64 0)])] [] [] := h8 [] (by simp) List.Pairwise.nil
    refine (Rf.asAgg (Rf.unc (Rf.asI (Rf.unc (Rf.asI (Rf.unn ?_))))))
    refine Rf.new C9 fun s10 (C11 : Cx s0.next [] [] s0 s10 [(s5.next, AObj.box 24 [(Value.int .i64 0), (Value.int .i64 0)]), (s0.next, AObj.box 24 [(Value.int .i64 0), (Value.int .i64 0)])] [] []) => ?_
    refine Rf.sto 0 C11 rfl (by simp) rfl fun s13 (C14 : Cx s0.next [] [] s0 s13 [(s5.next, AObj.box 24 [(Value.int .i64 r4.1), (Value.int .i64 r4.2)]), (s0.next, AObj.box 24 [(Value.int .i64 0), (Value.int .i64 0)])] [] []) => ?_
    refine Rf.ldI (C14.at m0 rfl) ?_
    refine Rf.ldI (C14.at m0 rfl) ?_
    refine Rf.ite ?_ ?_
    · refine Rf.ldI (C14.at m0 rfl) ?_
      refine Rf.ldI (C14.at m0 rfl) ?_
      refine Rf.sto 1 C14 rfl (by simp) rfl fun s19 (C20 : Cx s0.next [] [] s0 s19 [(s5.next, AObj.box 24 [(Value.int .i64 r4.1), (Value.int .i64 r4.2)]), (s0.next, AObj.box 24 [(Value.int .i64 r4.1), (Value.int .i64 r4.2)])] [] []) => ?_
      refine Rf.ldI (C20.at m1 rfl) ?_
      refine Rf.ldI (C20.at m1 rfl) ?_
      subst hH; subst hQ
      exact Rf.leaf fun _ => Ev.done (Rf.ret C20 ⟨none, 0, 0, rfl, .inl ⟨rfl, rfl, rfl⟩⟩)
    · have C23 : Cx s0.next [] [] s0 s13 [(s5.next, AObj.box 24 [(Value.int .i64 r4.1), (Value.int .i64 r4.2)]), (s0.next, AObj.box 24 [(Value.int .i64 0), (Value.int .i64 0)])] [(On.mk (rP (rI .i64) (rI .i64)) ([] : List (Int × Int)) none 0 38 false 0)] [] := C14.addNil (rP (rI .i64) (rI .i64)) 38
      refine Rf.loop (Inv := Inv7_1 s0 p0 A0 c0 h0 s0.next) (Ex := Ex7_1 s0 p0 A0 c0 h0 s0.next) (x7_1 s0 p0 A0 c0 h0 s0.next) (fun t g s K Q h => b7_1 n s0 p0 A0 c0 h0 s0.next t g s K Q h) n _ _ _ ⟨_, _, _, rfl, (C23.sub (List.Sublist.cons _ (List.Sublist.cons_cons _ List.Sublist.slnil)) (List.Sublist.refl _) (List.Sublist.refl _))⟩ ?_
      intro t155 e g s199 h
      obtain ⟨A150, c151, e153, rfl, rfl, C200⟩ := h
      rw [e7_after0_exit0 n]
      refine Rf.sto 0 C200 rfl (by simp) rfl fun s201 (C202 : Cx s0.next [] [] s0 s201 [(s0.next, AObj.box 24 [(Value.int .i64 0), (Value.int .i64 0)])] [(On.mk (rP (rI .i64) (rI .i64)) t155.1 A150 c151 38 false e153)] []) => ?_
      refine Rf.ldI (C202.at m0 rfl) ?_
      refine Rf.ldI (C202.at m0 rfl) ?_
      subst hH; subst hQ
      exact Rf.leaf fun _ => Ev.done (Rf.ret C202 ⟨_, _, _, rfl, C202.own _ m0⟩)
-- 31 "brindlewood/tables.varint"
abbrev Inv31_1 (s0 : St) (p0 : (List Int)) (p1 : Int) (A0 : Option Addr) (c0 : Nat) (e0 : Nat) (h0 : (On.mk (rI .u8) p0 A0 c0 5 false e0).holds s0.next (On.mk (rI .u8) p0 A0 c0 5 false e0).foot s0)  (t : ((List Int) × Int)) (g : Regs) (s : St) : Prop := ∃ (A2 : Option Addr) (c3 : Nat) (e5 : Nat), g = (rg 21 [(0, (Value.slice A2 (t.1).length c3)), (1, (Value.int .i64 t.2))]) ∧ Cx s0.next (On.mk (rI .u8) p0 A0 c0 5 false e0).foot [] s0 s [] [(On.mk (rI .u8) t.1 A2 c3 5 false e5)] []
abbrev Ex31_1 (s0 : St) (p0 : (List Int)) (p1 : Int) (A0 : Option Addr) (c0 : Nat) (e0 : Nat) (h0 : (On.mk (rI .u8) p0 A0 c0 5 false e0).holds s0.next (On.mk (rI .u8) p0 A0 c0 5 false e0).foot s0)  (t : ((List Int) × Int)) (e : X) (g : Regs) (s : St) : Prop := ∃ (A45 : Option Addr) (c46 : Nat) (e48 : Nat), e = .exit 0 ∧ g = (rg 21 [(0, (Value.slice A45 (t.1).length c46)), (1, (Value.int .i64 t.2)), (6, (Value.bool false))]) ∧ Cx s0.next (On.mk (rI .u8) p0 A0 c0 5 false e0).foot [] s0 s [] [(On.mk (rI .u8) t.1 A45 c46 5 false e48)] []
theorem x31_1 (s0 : St) (p0 : (List Int)) (p1 : Int) (A0 : Option Addr) (c0 : Nat) (e0 : Nat) (h0 : (On.mk (rI .u8) p0 A0 c0 5 false e0).holds s0.next (On.mk (rI .u8) p0 A0 c0 5 false e0).foot s0)  (t : ((List Int) × Int)) (e : X) (g : Regs) (s : St) (h : Ex31_1 s0 p0 p1 A0 c0 e0 h0  t e g s) : e ≠ .normal := by
  obtain ⟨_, _, _, h, _⟩ := h
  rw [h]; intro hh; cases hh
def pb31_1 (n : Nat)  (t : ((List Int) × Int)) : Option (((List Int) × Int) ⊕ ((List Int) × Int)) :=
  (if (decide ((t.2 : Int) > 127)) then ((apP 1 t.1 [(IntKind.wrap .u8 (IntKind.wrap .i64 (((BitVec.ofInt (IntKind.bits .i64) (IntKind.wrap .i64 (((BitVec.ofInt (IntKind.bits .i64) t.2 &&& BitVec.ofInt (IntKind.bits .i64) 127).toNat : Nat))) ||| BitVec.ofInt (IntKind.bits .i64) 128).toNat : Nat))))] (fun y37 => (shrP .i64 t.2 7 (fun x43 => (some (.inl ((t.1 ++ [(IntKind.wrap .u8 (IntKind.wrap .i64 (((BitVec.ofInt (IntKind.bits .i64) (IntKind.wrap .i64 (((BitVec.ofInt (IntKind.bits .i64) t.2 &&& BitVec.ofInt (IntKind.bits .i64) 127).toNat : Nat))) ||| BitVec.ofInt (IntKind.bits .i64) 128).toNat : Nat))))]), x43)))))))) else (((some (.inr (t.1, t.2))))))
theorem b31_1 (n : Nat) (s0 : St) (p0 : (List Int)) (p1 : Int) (A0 : Option Addr) (c0 : Nat) (e0 : Nat) (h0 : (On.mk (rI .u8) p0 A0 c0 5 false e0).holds s0.next (On.mk (rI .u8) p0 A0 c0 5 false e0).foot s0)  (t : ((List Int) × Int)) (g : Regs) (s28 : St) (K : Kont) (Q : Out → St → Prop) (h : Inv31_1 s0 p0 p1 A0 c0 e0 h0  t g s28) :
    Rf (pb31_1 n t) (fun r => ∀ e g' s', LK (Inv31_1 s0 p0 p1 A0 c0 e0 h0 ) (Ex31_1 s0 p0 p1 A0 c0 e0 h0 ) r e g' s' → Ev (K e g' s') Q) (fun _ => Q) (kBody E 31 n [.b, .a, .a, .a] g s28 K) := by
  obtain ⟨y4, x6⟩ := t
  obtain ⟨A2, c3, e5, rfl, C29⟩ := h
  rw [e31_body0 n]
  unfold pb31_1
  refine Rf.gen fun H Q hH hQ => ?_
  try dsimp only
  refine Rf.ite ?_ ?_
  · refine Rf.newR (r := (rI .u8)) (xs := [(IntKind.wrap .u8 (IntKind.wrap .i64 (((BitVec.ofInt (IntKind.bits .i64) (IntKind.wrap .i64 (((BitVec.ofInt (IntKind.bits .i64) x6 &&& BitVec.ofInt (IntKind.bits .i64) 127).toNat : Nat))) ||| BitVec.ofInt (IntKind.bits .i64) 128).toNat : Nat))))]) C29 rfl (many.cons (c := [(Value.int .u8 (IntKind.wrap .u8 (IntKind.wrap .i64 (((BitVec.ofInt (IntKind.bits .i64) (IntKind.wrap .i64 (((BitVec.ofInt (IntKind.bits .i64) x6 &&& BitVec.ofInt (IntKind.bits .i64) 127).toNat : Nat))) ||| BitVec.ofInt (IntKind.bits .i64) 128).toNat : Nat)))))]) rI_mk many.nil) fun s31 (C32 : Cx s0.next (On.mk (rI .u8) p0 A0 c0 5 false e0).foot [] s0 s31 [] [(On.mk (rI .u8) [(IntKind.wrap .u8 (IntKind.wrap .i64 (((BitVec.ofInt (IntKind.bits .i64) (IntKind.wrap .i64 (((BitVec.ofInt (IntKind.bits .i64) x6 &&& BitVec.ofInt (IntKind.bits .i64) 127).toNat : Nat))) ||| BitVec.ofInt (IntKind.bits .i64) 128).toNat : Nat))))] (some ⟨s28.next, 0, none⟩) 1 5 false s28.next), (On.mk (rI .u8) y4 A2 c3 5 false e5)] []) => ?_
    refine Rf.kapp 1 C32 rfl rfl (by decide) (by decide) (Ap.sr u29 rfl (C32.srB m0)) fun A34 c35 e36 s39 (C40 : Cx s0.next (On.mk (rI .u8) p0 A0 c0 5 false e0).foot [] s0 s39 [] [(On.mk (rI .u8) [(IntKind.wrap .u8 (IntKind.wrap .i64 (((BitVec.ofInt (IntKind.bits .i64) (IntKind.wrap .i64 (((BitVec.ofInt (IntKind.bits .i64) x6 &&& BitVec.ofInt (IntKind.bits .i64) 127).toNat : Nat))) ||| BitVec.ofInt (IntKind.bits .i64) 128).toNat : Nat))))] (some ⟨s28.next, 0, none⟩) 1 5 false s28.next), (On.mk (rI .u8) (y4 ++ [(IntKind.wrap .u8 (IntKind.wrap .i64 (((BitVec.ofInt (IntKind.bits .i64) (IntKind.wrap .i64 (((BitVec.ofInt (IntKind.bits .i64) x6 &&& BitVec.ofInt (IntKind.bits .i64) 127).toNat : Nat))) ||| BitVec.ofInt (IntKind.bits .i64) 128).toNat : Nat))))]) A34 c35 5 false e36)] []) => ?_
    have C41 : Cx s0.next (On.mk (rI .u8) p0 A0 c0 5 false e0).foot [] s0 s39 [] [(On.mk (rI .u8) (y4 ++ [(IntKind.wrap .u8 (IntKind.wrap .i64 (((BitVec.ofInt (IntKind.bits .i64) (IntKind.wrap .i64 (((BitVec.ofInt (IntKind.bits .i64) x6 &&& BitVec.ofInt (IntKind.bits .i64) 127).toNat : Nat))) ||| BitVec.ofInt (IntKind.bits .i64) 128).toNat : Nat))))]) A34 c35 5 false e36)] [] := C40.sub (List.Sublist.refl _) (List.Sublist.cons _ (List.Sublist.cons_cons _ List.Sublist.slnil)) (List.Sublist.refl _)
    refine Rf.shrI fun x43 => ?_
    subst hH; subst hQ
    exact Rf.leaf fun h => h _ _ _ ⟨rfl, _, _, _, rfl, (C41.sub (List.Sublist.refl _) (List.Sublist.refl _) (List.Sublist.refl _))⟩
  · subst hH; subst hQ
    exact Rf.leaf fun h => h _ _ _ ⟨_, _, _, rfl, rfl, (C29.sub (List.Sublist.refl _) (List.Sublist.refl _) (List.Sublist.refl _))⟩
abbrev P31 (N : Nat) (X : List Nat) (r : (List Int)) (v : Value) (s : St) : Prop := ∃ (A0 : Option Addr) (c0 : Nat) (e0 : Nat), v = (Value.slice A0 (r).length c0) ∧ (On.mk (rI .u8) r A0 c0 5 false e0).holds N X s
def p31 : Nat → (List Int) → Int → Option (List Int)
  | 0, _, _ => none
  | n + 1, p0, p1 => ((loopP (pb31_1 n) n (p0, p1)).bind fun t50 => apP 1 t50.1 [(IntKind.wrap .u8 t50.2)] (fun y80 => (some (t50.1 ++ [(IntKind.wrap .u8 t50.2)]))))
theorem t31 (k : Nat) (p0 : (List Int)) (p1 : Int) (s0 : St) {A0 : Option Addr} {c0 : Nat} {e0 : Nat} (h0 : (On.mk (rI .u8) p0 A0 c0 5 false e0).holds s0.next (On.mk (rI .u8) p0 A0 c0 5 false e0).foot s0) :
    Rf (p31 k p0 p1) (fun _ => True) (fun r => RtC s0.next (On.mk (rI .u8) p0 A0 c0 5 false e0).foot [] s0 (P31 s0.next (On.mk (rI .u8) p0 A0 c0 5 false e0).foot r)) (acall E k 31 [(Value.slice A0 (p0).length c0), (Value.int .i64 p1)] s0) := by
  cases k with
  | zero => exact Rf.none
  | succ n =>
    rw [e31 n]
    rw [p31]
    refine Rf.gen fun H Q hH hQ => ?_
    have C0 : Cx s0.next (On.mk (rI .u8) p0 A0 c0 5 false e0).foot [] s0 s0 [] [(On.mk (rI .u8) p0 A0 c0 5 false e0)] [] := Cx.startO h0
    refine Rf.loop (Inv := Inv31_1 s0 p0 p1 A0 c0 e0 h0 ) (Ex := Ex31_1 s0 p0 p1 A0 c0 e0 h0 ) (x31_1 s0 p0 p1 A0 c0 e0 h0 ) (fun t g s K Q h => b31_1 n s0 p0 p1 A0 c0 e0 h0  t g s K Q h) n _ _ _ ⟨_, _, _, rfl, (C0.sub (List.Sublist.refl _) (List.Sublist.refl _) (List.Sublist.refl _))⟩ ?_
    intro t50 e g s72 h
    obtain ⟨A45, c46, e48, rfl, rfl, C73⟩ := h
    rw [e31_after0_exit0 n]
    refine Rf.newR (r := (rI .u8)) (xs := [(IntKind.wrap .u8 t50.2)]) C73 rfl (many.cons (c := [(Value.int .u8 (IntKind.wrap .u8 t50.2))]) rI_mk many.nil) fun s74 (C75 : Cx s0.next (On.mk (rI .u8) p0 A0 c0 5 false e0).foot [] s0 s74 [] [(On.mk (rI .u8) [(IntKind.wrap .u8 t50.2)] (some ⟨s72.next, 0, none⟩) 1 5 false s72.next), (On.mk (rI .u8) t50.1 A45 c46 5 false e48)] []) => ?_
    refine Rf.kapp 1 C75 rfl rfl (by decide) (by decide) (Ap.sr u29 rfl (C75.srB m0)) fun A77 c78 e79 s82 (C83 : Cx s0.next (On.mk (rI .u8) p0 A0 c0 5 false e0).foot [] s0 s82 [] [(On.mk (rI .u8) [(IntKind.wrap .u8 t50.2)] (some ⟨s72.next, 0, none⟩) 1 5 false s72.next), (On.mk (rI .u8) (t50.1 ++ [(IntKind.wrap .u8 t50.2)]) A77 c78 5 false e79)] []) => ?_
    have C84 : Cx s0.next (On.mk (rI .u8) p0 A0 c0 5 false e0).foot [] s0 s82 [] [(On.mk (rI .u8) (t50.1 ++ [(IntKind.wrap .u8 t50.2)]) A77 c78 5 false e79)] [] := C83.sub (List.Sublist.refl _) (List.Sublist.cons _ (List.Sublist.cons_cons _ List.Sublist.slnil)) (List.Sublist.refl _)
    subst hH; subst hQ
    exact Rf.leaf fun _ => Ev.done (Rf.ret C84 ⟨_, _, _, rfl, C84.own _ m0⟩)
-- 32 "brindlewood/tables.fold"
abbrev P32 (N : Nat) (X : List Nat) (r : Int) (v : Value) (s : St) : Prop := v = (Value.int .i64 r)
def p32 : Nat → Int → Option Int
  | 0, _ => none
  | n + 1, p0 => ((if (decide ((p0 : Int) < 0)) then (((some (IntKind.wrap .i64 ((IntKind.wrap .i64 ((-2) * p0)) - 1))))) else (((some (IntKind.wrap .i64 (2 * p0)))))))
theorem t32 (k : Nat) (p0 : Int) (s0 : St) :
    Rf (p32 k p0) (fun _ => True) (fun r => RtC s0.next [] [] s0 (P32 s0.next [] r)) (acall E k 32 [(Value.int .i64 p0)] s0) := by
  cases k with
  | zero => exact Rf.none
  | succ n =>
    rw [e32 n]
    rw [p32]
    refine Rf.gen fun H Q hH hQ => ?_
    have C0 : Cx s0.next [] [] s0 s0 [] [] [] := Cx.start s0
    refine Rf.ite ?_ ?_
    · subst hH; subst hQ
      exact Rf.leaf fun _ => Ev.done (Rf.ret C0 rfl)
    · subst hH; subst hQ
      exact Rf.leaf fun _ => Ev.done (Rf.ret C0 rfl)
-- 8 "brindlewood/tables.PackLines"
abbrev Inv8_1 (s0 : St) (p0 : (List (Int × Int))) (A0 : Option Addr) (c0 : Nat) (h0 : Sr (rP (rI .i64) (rI .i64)) s0 A0 c0 p0) (i33 : Nat) (t : ((List Int) × Int × Int × Int)) (g : Regs) (s : St) : Prop := ∃ (A26 : Option Addr) (c27 : Nat) (e29 : Nat), g = (rg 41 [(3, (Value.pointer (some ⟨i33, 0, none⟩))), (5, (Value.slice A26 (t.1).length c27)), (6, (Value.int .i64 t.2.1)), (7, (Value.int .i64 t.2.2.1)), (16, (Value.slice A0 (p0).length c0)), (17, (Value.int .i64 ((p0).length : Nat))), (18, (Value.int .i64 t.2.2.2))]) ∧ Cx s0.next [] [] s0 s [(i33, AObj.box 24 [(Value.int .i64 0), (Value.int .i64 0)])] [(On.mk (rI .u8) t.1 A26 c27 5 false e29)] []
abbrev Ex8_1 (s0 : St) (p0 : (List (Int × Int))) (A0 : Option Addr) (c0 : Nat) (h0 : Sr (rP (rI .i64) (rI .i64)) s0 A0 c0 p0) (i33 : Nat) (t : ((List Int) × Int × Int × Int)) (e : X) (g : Regs) (s : St) : Prop := ∃ (A140 : Option Addr) (c141 : Nat) (e143 : Nat), e = .exit 0 ∧ g = (rg 41 [(3, (Value.pointer (some ⟨i33, 0, none⟩))), (5, (Value.slice A140 (t.1).length c141)), (6, (Value.int .i64 t.2.1)), (7, (Value.int .i64 t.2.2.1)), (16, (Value.slice A0 (p0).length c0)), (17, (Value.int .i64 ((p0).length : Nat))), (18, (Value.int .i64 t.2.2.2)), (19, (Value.bool false))]) ∧ Cx s0.next [] [] s0 s [(i33, AObj.box 24 [(Value.int .i64 0), (Value.int .i64 0)])] [(On.mk (rI .u8) t.1 A140 c141 5 false e143)] []
theorem x8_1 (s0 : St) (p0 : (List (Int × Int))) (A0 : Option Addr) (c0 : Nat) (h0 : Sr (rP (rI .i64) (rI .i64)) s0 A0 c0 p0) (i33 : Nat) (t : ((List Int) × Int × Int × Int)) (e : X) (g : Regs) (s : St) (h : Ex8_1 s0 p0 A0 c0 h0 i33 t e g s) : e ≠ .normal := by
  obtain ⟨_, _, _, h, _⟩ := h
  rw [h]; intro hh; cases hh
def pb8_1 (n : Nat) (p0 : (List (Int × Int))) (t : ((List Int) × Int × Int × Int)) : Option (((List Int) × Int × Int × Int) ⊕ ((List Int) × Int × Int × Int)) :=
  (if (decide ((t.2.2.2 : Int) < ((p0).length : Nat))) then ((rd p0 t.2.2.2 (fun x78 => ((p31 n t.1 (IntKind.wrap .i64 (x78.1 - t.2.1))).bind fun r102 => (p32 n (IntKind.wrap .i64 (x78.2 - t.2.2.1))).bind fun r117 => (p31 n r102 r117).bind fun r121 => (((some (.inl (r121, x78.1, x78.2, (IntKind.wrap .i64 (t.2.2.2 + 1))))))))))) else (((some (.inr (t.1, t.2.1, t.2.2.1, t.2.2.2))))))
theorem b8_1 (n : Nat) (s0 : St) (p0 : (List (Int × Int))) (A0 : Option Addr) (c0 : Nat) (h0 : Sr (rP (rI .i64) (rI .i64)) s0 A0 c0 p0) (i33 : Nat) (t : ((List Int) × Int × Int × Int)) (g : Regs) (s75 : St) (K : Kont) (Q : Out → St → Prop) (h : Inv8_1 s0 p0 A0 c0 h0 i33 t g s75) :
    Rf (pb8_1 n p0 t) (fun r => ∀ e g' s', LK (Inv8_1 s0 p0 A0 c0 h0 i33) (Ex8_1 s0 p0 A0 c0 h0 i33) r e g' s' → Ev (K e g' s') Q) (fun _ => Q) (kBody E 8 n [.b, .b, .b, .b, .a, .b, .a, .a] g s75 K) := by
  obtain ⟨y28, x30, x31, x32⟩ := t
  obtain ⟨A26, c27, e29, rfl, C76⟩ := h
  rw [e8_body0 n]
  unfold pb8_1
  refine Rf.gen fun H Q hH hQ => ?_
  try dsimp only
  refine Rf.ite ?_ ?_
  · refine Rf.elt (r := (rP (rI .i64) (rI .i64))) (C76.sr0 rfl h0) rfl fun x78 i79 o80 c81 r82 h83 => ?_
    obtain ⟨c88, c89, rfl, r90, r91⟩ := rP_elim r82
    obtain rfl := rI_elim r90
    obtain rfl := rI_elim r91
    refine Rf.ldI (h83.at 0 rfl) ?_
    refine Rf.ldI (h83.at 1 rfl) ?_
    refine Rf.new C76 fun s94 (C95 : Cx s0.next [] [] s0 s94 [(s75.next, AObj.box 38 [(Value.int .i64 0), (Value.int .i64 0)]), (i33, AObj.box 24 [(Value.int .i64 0), (Value.int .i64 0)])] [(On.mk (rI .u8) y28 A26 c27 5 false e29)] []) => ?_
    refine Rf.sto 0 C95 rfl (by simp) rfl fun s97 (C98 : Cx s0.next [] [] s0 s97 [(s75.next, AObj.box 38 [(Value.int .i64 x78.1), (Value.int .i64 x78.2)]), (i33, AObj.box 24 [(Value.int .i64 0), (Value.int .i64 0)])] [(On.mk (rI .u8) y28 A26 c27 5 false e29)] []) => ?_
    refine Rf.ifp (C98.isB m0) ?_
    refine Rf.ldI (C98.at m0 rfl) ?_
    refine Rf.callOA 0 C98 rfl (t31 n y28 (IntKind.wrap .i64 (x78.1 - x30)) { s97 with lowb := s97.next } (C98.lb.give m0 rfl)) ?_
    rintro r102 _ s103 ⟨A104, c105, e107, rfl, h106⟩ h111 h110
    have C113 : Cx s0.next [] [] s0 { s103 with lowb := min s97.lowb s103.lowb } [(s75.next, AObj.box 38 [(Value.int .i64 x78.1), (Value.int .i64 x78.2)]), (i33, AObj.box 24 [(Value.int .i64 0), (Value.int .i64 0)])] [(On.mk (rI .u8) r102 A104 c105 5 false e107)] [] := h110 _ h106
    refine (Rf.asSl ?_)
    refine Rf.ifp h111 ?_
    refine Rf.lt ?_
    generalize { s103 with lowb := min s97.lowb s103.lowb } = s112 at C113 ⊢
    refine Rf.ifp (C113.isB m0) ?_
    refine Rf.ldI (C113.at m0 rfl) ?_
    refine Rf.callZ (t32 n (IntKind.wrap .i64 (x78.2 - x31)) St.bare) ?_
    rintro r117 _ s118 rfl
    refine (Rf.asI ?_)
    refine Rf.callOA 0 C113 rfl (t31 n r102 r117 { s112 with lowb := s112.next } (C113.lb.give m0 rfl)) ?_
    rintro r121 _ s122 ⟨A123, c124, e126, rfl, h125⟩ h130 h129
    have C132 : Cx s0.next [] [] s0 { s122 with lowb := min s112.lowb s122.lowb } [(s75.next, AObj.box 38 [(Value.int .i64 x78.1), (Value.int .i64 x78.2)]), (i33, AObj.box 24 [(Value.int .i64 0), (Value.int .i64 0)])] [(On.mk (rI .u8) r121 A123 c124 5 false e126)] [] := h129 _ h125
    refine (Rf.asSl ?_)
    refine Rf.ifp h130 ?_
    refine Rf.lt ?_
    generalize { s122 with lowb := min s112.lowb s122.lowb } = s131 at C132 ⊢
    refine Rf.ldI (C132.at m0 rfl) ?_
    refine Rf.ldI (C132.at m0 rfl) ?_
    subst hH; subst hQ
    exact Rf.leaf fun h => h _ _ _ ⟨rfl, _, _, _, rfl, (C132.sub (List.Sublist.cons _ (List.Sublist.cons_cons _ List.Sublist.slnil)) (List.Sublist.refl _) (List.Sublist.refl _))⟩
  · subst hH; subst hQ
    exact Rf.leaf fun h => h _ _ _ ⟨_, _, _, rfl, rfl, (C76.sub (List.Sublist.refl _) (List.Sublist.refl _) (List.Sublist.refl _))⟩
abbrev P8 (N : Nat) (X : List Nat) (r : ((List Int) × (Int × Int))) (v : Value) (s : St) : Prop := ∃ (A0 : Option Addr) (c0 : Nat) (e0 : Nat), v = (Value.tuple #[(Value.slice A0 (r.1).length c0), (Value.agg #[(Value.int .i64 r.2.1), (Value.int .i64 r.2.2)])]) ∧ (On.mk (rI .u8) r.1 A0 c0 5 false e0).holds N X s
def p8 : Nat → (List (Int × Int)) → Option ((List Int) × (Int × Int))
  | 0, _ => none
  | n + 1, p0 => ((p27 n p0).bind fun r4 => ((if (!(((r4.1 : Int) == 0) && (((r4.2 : Int) == 0) && true))) then (((some (([] : (List Int)), (r4.1, r4.2))))) else ((((((loopP (pb8_1 n p0) n (([] : List Int), 0, 0, 0)).bind fun t147 => (some (t147.1, (0, 0)))))))))))
theorem t8 (k : Nat) (p0 : (List (Int × Int))) (s0 : St) {A0 : Option Addr} {c0 : Nat} (h0 : Sr (rP (rI .i64) (rI .i64)) s0 A0 c0 p0) :
    Rf (p8 k p0) (fun _ => True) (fun r => RtC s0.next [] [] s0 (P8 s0.next [] r)) (acall E k 8 [(Value.slice A0 (p0).length c0)] s0) := by
  cases k with
  | zero => exact Rf.none
  | succ n =>
    rw [e8 n]
    rw [p8]
    refine Rf.gen fun H Q hH hQ => ?_
    have C0 : Cx s0.next [] [] s0 s0 [] [] [] := Cx.start s0
    refine Rf.new C0 fun s1 (C2 : Cx s0.next [] [] s0 s1 [(s0.next, AObj.box 24 [(Value.int .i64 0), (Value.int .i64 0)])] [] []) => ?_
    refine Rf.call0 C2 (t27 n p0 s1 (C2.sr0 rfl h0)) ?_
    rintro r4 _ s5 rfl h8
    have C9 : Cx s0.next [] [] s0 s5 [(s0.next, AObj.box 24 [(Value.int .i64 0), (Value.int .i64 0)])] [] [] := h8 [] (by simp) List.Pairwise.nil
    refine (Rf.asAgg (Rf.unc (Rf.asI (Rf.unc (Rf.asI (Rf.unn ?_))))))
    refine Rf.new C9 fun s10 (C11 : Cx s0.next [] [] s0 s10 [(s5.next, AObj.box 24 [(Value.int .i64 0), (Value.int .i64 0)]), (s0.next, AObj.box 24 [(Value.int .i64 0), (Value.int .i64 0)])] [] []) => ?_
    refine Rf.sto 0 C11 rfl (by simp) rfl fun s13 (C14 : Cx s0.next [] [] s0 s13 [(s5.next, AObj.box 24 [(Value.int .i64 r4.1), (Value.int .i64 r4.2)]), (s0.next, AObj.box 24 [(Value.int .i64 0), (Value.int .i64 0)])] [] []) => ?_
    refine Rf.ldI (C14.at m0 rfl) ?_
    refine Rf.ldI (C14.at m0 rfl) ?_
    refine Rf.ite ?_ ?_
    · refine Rf.ldI (C14.at m0 rfl) ?_
      refine Rf.ldI (C14.at m0 rfl) ?_
      refine Rf.sto 1 C14 rfl (by simp) rfl fun s19 (C20 : Cx s0.next [] [] s0 s19 [(s5.next, AObj.box 24 [(Value.int .i64 r4.1), (Value.int .i64 r4.2)]), (s0.next, AObj.box 24 [(Value.int .i64 r4.1), (Value.int .i64 r4.2)])] [] []) => ?_
      refine Rf.ldI (C20.at m1 rfl) ?_
      refine Rf.ldI (C20.at m1 rfl) ?_
      subst hH; subst hQ
      exact Rf.leaf fun _ => Ev.done (Rf.ret C20 ⟨none, 0, 0, rfl, .inl ⟨rfl, rfl, rfl⟩⟩)
    · have C23 : Cx s0.next [] [] s0 s13 [(s5.next, AObj.box 24 [(Value.int .i64 r4.1), (Value.int .i64 r4.2)]), (s0.next, AObj.box 24 [(Value.int .i64 0), (Value.int .i64 0)])] [(On.mk (rI .u8) ([] : List Int) none 0 5 false 0)] [] := C14.addNil (rI .u8) 5
      refine Rf.loop (Inv := Inv8_1 s0 p0 A0 c0 h0 s0.next) (Ex := Ex8_1 s0 p0 A0 c0 h0 s0.next) (x8_1 s0 p0 A0 c0 h0 s0.next) (fun t g s K Q h => b8_1 n s0 p0 A0 c0 h0 s0.next t g s K Q h) n _ _ _ ⟨_, _, _, rfl, (C23.sub (List.Sublist.cons _ (List.Sublist.cons_cons _ List.Sublist.slnil)) (List.Sublist.refl _) (List.Sublist.refl _))⟩ ?_
      intro t147 e g s189 h
      obtain ⟨A140, c141, e143, rfl, rfl, C190⟩ := h
      rw [e8_after0_exit0 n]
      refine Rf.sto 0 C190 rfl (by simp) rfl fun s191 (C192 : Cx s0.next [] [] s0 s191 [(s0.next, AObj.box 24 [(Value.int .i64 0), (Value.int .i64 0)])] [(On.mk (rI .u8) t147.1 A140 c141 5 false e143)] []) => ?_
      refine Rf.ldI (C192.at m0 rfl) ?_
      refine Rf.ldI (C192.at m0 rfl) ?_
      subst hH; subst hQ
      exact Rf.leaf fun _ => Ev.done (Rf.ret C192 ⟨_, _, _, rfl, C192.own _ m0⟩)
-- 10 "brindlewood/brindlewoodref7.At"
abbrev P10 (N : Nat) (X : List Nat) (r : (Int × Int)) (v : Value) (s : St) : Prop := v = (Value.agg #[(Value.int .i64 r.1), (Value.int .i64 r.2)])
def p10 : Nat → Int → Int → Option (Int × Int)
  | 0, _, _ => none
  | n + 1, p0, p1 => ((some (p0, p1)))
theorem t10 (k : Nat) (p0 : Int) (p1 : Int) (s0 : St) :
    Rf (p10 k p0 p1) (fun _ => True) (fun r => RtC s0.next [] [] s0 (P10 s0.next [] r)) (acall E k 10 [(Value.int .i64 p0), (Value.int .i64 p1)] s0) := by
  cases k with
  | zero => exact Rf.none
  | succ n =>
    rw [e10 n]
    rw [p10]
    refine Rf.gen fun H Q hH hQ => ?_
    have C0 : Cx s0.next [] [] s0 s0 [] [] [] := Cx.start s0
    refine Rf.new C0 fun s1 (C2 : Cx s0.next [] [] s0 s1 [(s0.next, AObj.box 24 [(Value.int .i64 0), (Value.int .i64 0)])] [] []) => ?_
    refine Rf.sto 0 C2 rfl (by simp) rfl fun s4 (C5 : Cx s0.next [] [] s0 s4 [(s0.next, AObj.box 24 [(Value.int .i64 p0), (Value.int .i64 p1)])] [] []) => ?_
    refine Rf.ldI (C5.at m0 rfl) ?_
    refine Rf.ldI (C5.at m0 rfl) ?_
    subst hH; subst hQ
    exact Rf.leaf fun _ => Ev.done (Rf.ret C5 rfl)
-- 33 "brindlewood/brindlewoodref7.between"
abbrev P33 (N : Nat) (X : List Nat) (r : Bool) (v : Value) (s : St) : Prop := v = (Value.bool r)
def p33 : Nat → Int → Int → Int → Option Bool
  | 0, _, _, _ => none
  | n + 1, p0, p1, p2 => (pj (fun (b2 : Bool) => some b2) (fun J1 => if (decide ((p1 : Int) ≤ p0)) then ((J1 (decide ((p0 : Int) ≤ p2)))) else ((J1 false))))
theorem t33 (k : Nat) (p0 : Int) (p1 : Int) (p2 : Int) (s0 : St) :
    Rf (p33 k p0 p1 p2) (fun _ => True) (fun r => RtC s0.next [] [] s0 (P33 s0.next [] r)) (acall E k 33 [(Value.int .i64 p0), (Value.int .i64 p1), (Value.int .i64 p2)] s0) := by
  cases k with
  | zero => exact Rf.none
  | succ n =>
    rw [e33 n]
    rw [p33]
    refine Rf.gen fun H Q hH hQ => ?_
    have C0 : Cx s0.next [] [] s0 s0 [] [] [] := Cx.start s0
    refine Rf.pj fun J1 J1' hJ1 hJ1' => ?_
    have J1h : ∀ (b2 : Bool) (_ : Cx s0.next [] [] s0 s0 [] [] []), Rf (J1 b2) H Q (J1' b2) := by
      subst hJ1
      subst hJ1'
      intro b2 C4
      subst hH; subst hQ
      exact Rf.leaf fun _ => Ev.done (Rf.ret C4 rfl)
    clear hJ1 hJ1'
    refine Rf.ite ?_ ?_
    · exact J1h (decide ((p0 : Int) ≤ p2)) (C0.sub (List.Sublist.refl _) (List.Sublist.refl _) (List.Sublist.refl _))
    · exact J1h false (C0.sub (List.Sublist.refl _) (List.Sublist.refl _) (List.Sublist.refl _))
-- 9 "brindlewood/brindlewoodref7.MarksFault"
abbrev Inv9_1 (s0 : St) (p0 : (List (Int × Int))) (A0 : Option Addr) (c0 : Nat) (h0 : Sr (rP (rI .i64) (rI .i64)) s0 A0 c0 p0) (i16 : Nat) (t : (Int × Int)) (g : Regs) (s : St) : Prop := g = (rg 48 [(2, (Value.pointer (some ⟨i16, 0, none⟩))), (3, (Value.int .i64 t.1)), (10, (Value.slice A0 (p0).length c0)), (11, (Value.int .i64 ((p0).length : Nat))), (12, (Value.int .i64 t.2))]) ∧ Cx s0.next [] [] s0 s [(i16, AObj.box 24 [(Value.int .i64 0), (Value.int .i64 0)])] [] []
abbrev Ex9_1 (s0 : St) (p0 : (List (Int × Int))) (A0 : Option Addr) (c0 : Nat) (h0 : Sr (rP (rI .i64) (rI .i64)) s0 A0 c0 p0) (i16 : Nat) (t : ((Int × Int) ⊕ (Int × Int))) (e : X) (g : Regs) (s : St) : Prop := match t with
  | (.inl t) => e = .exit 0 ∧ g = (rg 48 [(2, (Value.pointer (some ⟨i16, 0, none⟩))), (3, (Value.int .i64 t.1)), (10, (Value.slice A0 (p0).length c0)), (11, (Value.int .i64 ((p0).length : Nat))), (12, (Value.int .i64 t.2)), (13, (Value.bool false))]) ∧ Cx s0.next [] [] s0 s [(i16, AObj.box 24 [(Value.int .i64 0), (Value.int .i64 0)])] [] []
  | (.inr t) => e = .ret ∧ g = (rg 48 [(2, (Value.pointer (some ⟨i16, 0, none⟩)))]) ∧ Cx s0.next [] [] s0 s [(i16, AObj.box 24 [(Value.int .i64 t.1), (Value.int .i64 t.2)])] [] []
theorem x9_1 (s0 : St) (p0 : (List (Int × Int))) (A0 : Option Addr) (c0 : Nat) (h0 : Sr (rP (rI .i64) (rI .i64)) s0 A0 c0 p0) (i16 : Nat) (t : ((Int × Int) ⊕ (Int × Int))) (e : X) (g : Regs) (s : St) (h : Ex9_1 s0 p0 A0 c0 h0 i16 t e g s) : e ≠ .normal := by
  rcases t with t | t
  · obtain ⟨h, _⟩ := h
    rw [h]; intro hh; cases hh
  · obtain ⟨h, _⟩ := h
    rw [h]; intro hh; cases hh
def pb9_1 (n : Nat) (p0 : (List (Int × Int))) (t : (Int × Int)) : Option ((Int × Int) ⊕ ((Int × Int) ⊕ (Int × Int))) :=
  (if (decide ((t.2 : Int) < ((p0).length : Nat))) then ((rd p0 t.2 (fun x68 => (pj (fun (b106 : Bool) => if b106 then ((p10 n 4 t.2).bind fun r110 => ((((some (.inr (.inr (r110.1, r110.2)))))))) else ((pj (fun (b125 : Bool) => if b125 then ((p10 n 11 t.2).bind fun r128 => ((((some (.inr (.inr (r128.1, r128.2)))))))) else ((((some (.inl (x68.1, (IntKind.wrap .i64 (t.2 + 1))))))))) (fun J124 => if (decide ((x68.1 : Int) ≤ t.1)) then ((J124 true)) else (if ((t.2 : Int) == 0) then ((J124 (decide ((x68.1 : Int) > 0)))) else ((J124 false))))))) (fun J105 => (p33 n x68.1 0 59999).bind fun r92 => if (!r92) then ((J105 true)) else ((p33 n x68.2 1 16000).bind fun r100 => (J105 (!r100)))))))) else (((some (.inr (.inl (t.1, t.2)))))))
theorem b9_1 (n : Nat) (s0 : St) (p0 : (List (Int × Int))) (A0 : Option Addr) (c0 : Nat) (h0 : Sr (rP (rI .i64) (rI .i64)) s0 A0 c0 p0) (i16 : Nat) (t : (Int × Int)) (g : Regs) (s65 : St) (K : Kont) (Q : Out → St → Prop) (h : Inv9_1 s0 p0 A0 c0 h0 i16 t g s65) :
    Rf (pb9_1 n p0 t) (fun r => ∀ e g' s', LK (Inv9_1 s0 p0 A0 c0 h0 i16) (Ex9_1 s0 p0 A0 c0 h0 i16) r e g' s' → Ev (K e g' s') Q) (fun _ => Q) (kBody E 9 n [.b, .b, .b, .a, .b, .a, .a] g s65 K) := by
  obtain ⟨x14, x15⟩ := t
  obtain ⟨rfl, C66⟩ := h
  rw [e9_body0 n]
  unfold pb9_1
  refine Rf.gen fun H Q hH hQ => ?_
  try dsimp only
  refine Rf.ite ?_ ?_
  · refine Rf.elt (r := (rP (rI .i64) (rI .i64))) (C66.sr0 rfl h0) rfl fun x68 i69 o70 c71 r72 h73 => ?_
    obtain ⟨c78, c79, rfl, r80, r81⟩ := rP_elim r72
    obtain rfl := rI_elim r80
    obtain rfl := rI_elim r81
    refine Rf.ldI (h73.at 0 rfl) ?_
    refine Rf.ldI (h73.at 1 rfl) ?_
    refine Rf.new C66 fun s84 (C85 : Cx s0.next [] [] s0 s84 [(s65.next, AObj.box 38 [(Value.int .i64 0), (Value.int .i64 0)]), (i16, AObj.box 24 [(Value.int .i64 0), (Value.int .i64 0)])] [] []) => ?_
    refine Rf.sto 0 C85 rfl (by simp) rfl fun s87 (C88 : Cx s0.next [] [] s0 s87 [(s65.next, AObj.box 38 [(Value.int .i64 x68.1), (Value.int .i64 x68.2)]), (i16, AObj.box 24 [(Value.int .i64 0), (Value.int .i64 0)])] [] []) => ?_
    refine Rf.pj fun J105 J105' hJ105 hJ105' => ?_
    have J105h : ∀ (b106 : Bool) (s108 : St) (_ : Cx s0.next [] [] s0 s108 [(s65.next, AObj.box 38 [(Value.int .i64 x68.1), (Value.int .i64 x68.2)]), (i16, AObj.box 24 [(Value.int .i64 0), (Value.int .i64 0)])] [] []), Rf (J105 b106) H Q (J105' b106 s108) := by
      subst hJ105
      subst hJ105'
      intro b106 s108 C109
      refine Rf.ite ?_ ?_
      · refine Rf.call0 C109 (t10 n 4 x15 s108) ?_
        rintro r110 _ s111 rfl h114
        have C115 : Cx s0.next [] [] s0 s111 [(s65.next, AObj.box 38 [(Value.int .i64 x68.1), (Value.int .i64 x68.2)]), (i16, AObj.box 24 [(Value.int .i64 0), (Value.int .i64 0)])] [] [] := h114 [] (by simp) List.Pairwise.nil
        refine (Rf.asAgg (Rf.unc (Rf.asI (Rf.unc (Rf.asI (Rf.unn ?_))))))
        refine Rf.sto 1 C115 rfl (by simp) rfl fun s116 (C117 : Cx s0.next [] [] s0 s116 [(s65.next, AObj.box 38 [(Value.int .i64 x68.1), (Value.int .i64 x68.2)]), (i16, AObj.box 24 [(Value.int .i64 r110.1), (Value.int .i64 r110.2)])] [] []) => ?_
        subst hH; subst hQ
        exact Rf.leaf fun h => h _ _ _ ⟨rfl, rfl, (C117.sub (List.Sublist.cons _ (List.Sublist.cons_cons _ List.Sublist.slnil)) (List.Sublist.refl _) (List.Sublist.refl _))⟩
      · refine Rf.pj fun J124 J124' hJ124 hJ124' => ?_
        have J124h : ∀ (b125 : Bool) (_ : Cx s0.next [] [] s0 s108 [(s65.next, AObj.box 38 [(Value.int .i64 x68.1), (Value.int .i64 x68.2)]), (i16, AObj.box 24 [(Value.int .i64 0), (Value.int .i64 0)])] [] []), Rf (J124 b125) H Q (J124' b125) := by
          subst hJ124
          subst hJ124'
          intro b125 C127
          refine Rf.ite ?_ ?_
          · refine Rf.call0 C127 (t10 n 11 x15 s108) ?_
            rintro r128 _ s129 rfl h132
            have C133 : Cx s0.next [] [] s0 s129 [(s65.next, AObj.box 38 [(Value.int .i64 x68.1), (Value.int .i64 x68.2)]), (i16, AObj.box 24 [(Value.int .i64 0), (Value.int .i64 0)])] [] [] := h132 [] (by simp) List.Pairwise.nil
            refine (Rf.asAgg (Rf.unc (Rf.asI (Rf.unc (Rf.asI (Rf.unn ?_))))))
            refine Rf.sto 1 C133 rfl (by simp) rfl fun s134 (C135 : Cx s0.next [] [] s0 s134 [(s65.next, AObj.box 38 [(Value.int .i64 x68.1), (Value.int .i64 x68.2)]), (i16, AObj.box 24 [(Value.int .i64 r128.1), (Value.int .i64 r128.2)])] [] []) => ?_
            subst hH; subst hQ
            exact Rf.leaf fun h => h _ _ _ ⟨rfl, rfl, (C135.sub (List.Sublist.cons _ (List.Sublist.cons_cons _ List.Sublist.slnil)) (List.Sublist.refl _) (List.Sublist.refl _))⟩
          · refine Rf.ldI (C127.at m0 rfl) ?_
            subst hH; subst hQ
            exact Rf.leaf fun h => h _ _ _ ⟨rfl, rfl, (C127.sub (List.Sublist.cons _ (List.Sublist.cons_cons _ List.Sublist.slnil)) (List.Sublist.refl _) (List.Sublist.refl _))⟩
        clear hJ124 hJ124'
        refine Rf.ldI (C109.at m0 rfl) ?_
        refine Rf.ite ?_ ?_
        · exact J124h true (C109.sub (List.Sublist.refl _) (List.Sublist.refl _) (List.Sublist.refl _))
        · refine Rf.ite ?_ ?_
          · refine Rf.ldI (C109.at m0 rfl) ?_
            exact J124h (decide ((x68.1 : Int) > 0)) (C109.sub (List.Sublist.refl _) (List.Sublist.refl _) (List.Sublist.refl _))
          · exact J124h false (C109.sub (List.Sublist.refl _) (List.Sublist.refl _) (List.Sublist.refl _))
    clear hJ105 hJ105'
    refine Rf.ldI (C88.at m0 rfl) ?_
    refine Rf.call0 C88 (t33 n x68.1 0 59999 s87) ?_
    rintro r92 _ s93 rfl h95
    have C96 : Cx s0.next [] [] s0 s93 [(s65.next, AObj.box 38 [(Value.int .i64 x68.1), (Value.int .i64 x68.2)]), (i16, AObj.box 24 [(Value.int .i64 0), (Value.int .i64 0)])] [] [] := h95 [] (by simp) List.Pairwise.nil
    refine (Rf.asB ?_)
    refine Rf.ite ?_ ?_
    · exact J105h true _ (C96.sub (List.Sublist.refl _) (List.Sublist.refl _) (List.Sublist.refl _))
    · refine Rf.ldI (C96.at m0 rfl) ?_
      refine Rf.call0 C96 (t33 n x68.2 1 16000 s93) ?_
      rintro r100 _ s101 rfl h103
      have C104 : Cx s0.next [] [] s0 s101 [(s65.next, AObj.box 38 [(Value.int .i64 x68.1), (Value.int .i64 x68.2)]), (i16, AObj.box 24 [(Value.int .i64 0), (Value.int .i64 0)])] [] [] := h103 [] (by simp) List.Pairwise.nil
      refine (Rf.asB ?_)
      exact J105h (!r100) _ (C104.sub (List.Sublist.refl _) (List.Sublist.refl _) (List.Sublist.refl _))
  · subst hH; subst hQ
    exact Rf.leaf fun h => h _ _ _ ⟨rfl, rfl, (C66.sub (List.Sublist.refl _) (List.Sublist.refl _) (List.Sublist.refl _))⟩
abbrev P9 (N : Nat) (X : List Nat) (r : (Int × Int)) (v : Value) (s : St) : Prop := v = (Value.agg #[(Value.int .i64 r.1), (Value.int .i64 r.2)])
def p9 : Nat → (List (Int × Int)) → Option (Int × Int)
  | 0, _ => none
  | n + 1, p0 => ((if (decide ((((p0).length : Nat) : Int) > 60000)) then ((p10 n 2 (-1)).bind fun r4 => ((some (r4.1, r4.2)))) else (((((loopP (pb9_1 n p0) n ((-1), 0)).bind fun t251 => match t251 with | (.inl t143) => ((some (0, 0))) | (.inr t198) => (some (t198.1, t198.2))))))))
theorem t9 (k : Nat) (p0 : (List (Int × Int))) (s0 : St) {A0 : Option Addr} {c0 : Nat} (h0 : Sr (rP (rI .i64) (rI .i64)) s0 A0 c0 p0) :
    Rf (p9 k p0) (fun _ => True) (fun r => RtC s0.next [] [] s0 (P9 s0.next [] r)) (acall E k 9 [(Value.slice A0 (p0).length c0)] s0) := by
  cases k with
  | zero => exact Rf.none
  | succ n =>
    rw [e9 n]
    rw [p9]
    refine Rf.gen fun H Q hH hQ => ?_
    have C0 : Cx s0.next [] [] s0 s0 [] [] [] := Cx.start s0
    refine Rf.new C0 fun s1 (C2 : Cx s0.next [] [] s0 s1 [(s0.next, AObj.box 24 [(Value.int .i64 0), (Value.int .i64 0)])] [] []) => ?_
    refine Rf.ite ?_ ?_
    · refine Rf.call0 C2 (t10 n 2 (-1) s1) ?_
      rintro r4 _ s5 rfl h8
      have C9 : Cx s0.next [] [] s0 s5 [(s0.next, AObj.box 24 [(Value.int .i64 0), (Value.int .i64 0)])] [] [] := h8 [] (by simp) List.Pairwise.nil
      refine (Rf.asAgg (Rf.unc (Rf.asI (Rf.unc (Rf.asI (Rf.unn ?_))))))
      refine Rf.sto 0 C9 rfl (by simp) rfl fun s10 (C11 : Cx s0.next [] [] s0 s10 [(s0.next, AObj.box 24 [(Value.int .i64 r4.1), (Value.int .i64 r4.2)])] [] []) => ?_
      refine Rf.ldI (C11.at m0 rfl) ?_
      refine Rf.ldI (C11.at m0 rfl) ?_
      subst hH; subst hQ
      exact Rf.leaf fun _ => Ev.done (Rf.ret C11 rfl)
    · refine Rf.loop (Inv := Inv9_1 s0 p0 A0 c0 h0 s0.next) (Ex := Ex9_1 s0 p0 A0 c0 h0 s0.next) (x9_1 s0 p0 A0 c0 h0 s0.next) (fun t g s K Q h => b9_1 n s0 p0 A0 c0 h0 s0.next t g s K Q h) n _ _ _ ⟨rfl, (C2.sub (List.Sublist.refl _) (List.Sublist.refl _) (List.Sublist.refl _))⟩ ?_
      intro t e g s h
      rcases t with t143 | t198
      · generalize s = s192 at h ⊢
        obtain ⟨rfl, rfl, C193⟩ := h
        rw [e9_after0_exit0 n]
        refine Rf.sto 0 C193 rfl (by simp) rfl fun s194 (C195 : Cx s0.next [] [] s0 s194 [(s0.next, AObj.box 24 [(Value.int .i64 0), (Value.int .i64 0)])] [] []) => ?_
        refine Rf.ldI (C195.at m0 rfl) ?_
        refine Rf.ldI (C195.at m0 rfl) ?_
        subst hH; subst hQ
        exact Rf.leaf fun _ => Ev.done (Rf.ret C195 rfl)
      · generalize s = s247 at h ⊢
        obtain ⟨rfl, rfl, C248⟩ := h
        rw [e9_after0_ret n]
        refine Rf.ldI (C248.at m0 rfl) ?_
        refine Rf.ldI (C248.at m0 rfl) ?_
        subst hH; subst hQ
        exact Rf.leaf fun _ => Ev.done (Rf.ret C248 rfl)
-- 11 "brindlewood/brindlewoodref7.LineAt"
abbrev Inv11_1 (s0 : St) (p0 : (List (Int × Int))) (p1 : Int) (A0 : Option Addr) (c0 : Nat) (h0 : Sr (rP (rI .i64) (rI .i64)) s0 A0 c0 p0)  (t : (Int × Int)) (g : Regs) (s : St) : Prop := g = (rg 22 [(1, (Value.int .i64 p1)), (5, (Value.int .i64 t.1)), (8, (Value.slice A0 (p0).length c0)), (9, (Value.int .i64 ((p0).length : Nat))), (10, (Value.int .i64 t.2))]) ∧ Cx s0.next [] [] s0 s [] [] []
abbrev Ex11_1 (s0 : St) (p0 : (List (Int × Int))) (p1 : Int) (A0 : Option Addr) (c0 : Nat) (h0 : Sr (rP (rI .i64) (rI .i64)) s0 A0 c0 p0)  (t : (Int × Int)) (e : X) (g : Regs) (s : St) : Prop := e = .exit 0 ∧ g = (rg 22 [(1, (Value.int .i64 p1)), (5, (Value.int .i64 t.1)), (8, (Value.slice A0 (p0).length c0)), (9, (Value.int .i64 ((p0).length : Nat))), (10, (Value.int .i64 t.2)), (11, (Value.bool false))]) ∧ Cx s0.next [] [] s0 s [] [] []
theorem x11_1 (s0 : St) (p0 : (List (Int × Int))) (p1 : Int) (A0 : Option Addr) (c0 : Nat) (h0 : Sr (rP (rI .i64) (rI .i64)) s0 A0 c0 p0)  (t : (Int × Int)) (e : X) (g : Regs) (s : St) (h : Ex11_1 s0 p0 p1 A0 c0 h0  t e g s) : e ≠ .normal := by
  obtain ⟨h, _⟩ := h
  rw [h]; intro hh; cases hh
def pb11_1 (n : Nat) (p0 : (List (Int × Int))) (p1 : Int) (t : (Int × Int)) : Option ((Int × Int) ⊕ (Int × Int)) :=
  (if (decide ((t.2 : Int) < ((p0).length : Nat))) then ((pj (fun (x56 : Int) => (some (.inl (x56, (IntKind.wrap .i64 (t.2 + 1)))))) (fun J55 => rd p0 t.2 (fun x28 => ((if (decide ((x28.1 : Int) ≤ p1)) then ((J55 x28.2)) else ((J55 t.1)))))))) else (((some (.inr (t.1, t.2))))))
theorem b11_1 (n : Nat) (s0 : St) (p0 : (List (Int × Int))) (p1 : Int) (A0 : Option Addr) (c0 : Nat) (h0 : Sr (rP (rI .i64) (rI .i64)) s0 A0 c0 p0)  (t : (Int × Int)) (g : Regs) (s25 : St) (K : Kont) (Q : Out → St → Prop) (h : Inv11_1 s0 p0 p1 A0 c0 h0  t g s25) :
    Rf (pb11_1 n p0 p1 t) (fun r => ∀ e g' s', LK (Inv11_1 s0 p0 p1 A0 c0 h0 ) (Ex11_1 s0 p0 p1 A0 c0 h0 ) r e g' s' → Ev (K e g' s') Q) (fun _ => Q) (kBody E 11 n [.b, .b, .a, .b, .a, .a] g s25 K) := by
  obtain ⟨x1, x2⟩ := t
  obtain ⟨rfl, C26⟩ := h
  rw [e11_body0 n]
  unfold pb11_1
  refine Rf.gen fun H Q hH hQ => ?_
  try dsimp only
  refine Rf.ite ?_ ?_
  · refine Rf.pj fun J55 J55' hJ55 hJ55' => ?_
    have J55h : ∀ (e58 : Value) (e59 : Value) (x56 : Int) (s60 : St) (_ : Cx s0.next [] [] s0 s60 [] [] []), Rf (J55 x56) H Q (J55' x56 e58 e59 s60) := by
      subst hJ55
      subst hJ55'
      intro e58 e59 x56 s60 C61
      subst hH; subst hQ
      exact Rf.leaf fun h => h _ _ _ ⟨rfl, rfl, (C61.sub (List.Sublist.refl _) (List.Sublist.refl _) (List.Sublist.refl _))⟩
    clear hJ55 hJ55'
    refine Rf.elt (r := (rP (rI .i64) (rI .i64))) (C26.sr0 rfl h0) rfl fun x28 i29 o30 c31 r32 h33 => ?_
    obtain ⟨c38, c39, rfl, r40, r41⟩ := rP_elim r32
    obtain rfl := rI_elim r40
    obtain rfl := rI_elim r41
    refine Rf.ldI (h33.at 0 rfl) ?_
    refine Rf.ldI (h33.at 1 rfl) ?_
    refine Rf.new C26 fun s44 (C45 : Cx s0.next [] [] s0 s44 [(s25.next, AObj.box 38 [(Value.int .i64 0), (Value.int .i64 0)])] [] []) => ?_
    refine Rf.sto 0 C45 rfl (by simp) rfl fun s47 (C48 : Cx s0.next [] [] s0 s47 [(s25.next, AObj.box 38 [(Value.int .i64 x28.1), (Value.int .i64 x28.2)])] [] []) => ?_
    refine Rf.ldI (C48.at m0 rfl) ?_
    refine Rf.ite ?_ ?_
    · refine Rf.ldI (C48.at m0 rfl) ?_
      exact J55h _ _ x28.2 _ (C48.sub (List.Sublist.cons _ List.Sublist.slnil) (List.Sublist.refl _) (List.Sublist.refl _))
    · exact J55h _ _ x1 _ (C48.sub (List.Sublist.cons _ List.Sublist.slnil) (List.Sublist.refl _) (List.Sublist.refl _))
  · subst hH; subst hQ
    exact Rf.leaf fun h => h _ _ _ ⟨rfl, rfl, (C26.sub (List.Sublist.refl _) (List.Sublist.refl _) (List.Sublist.refl _))⟩
abbrev P11 (N : Nat) (X : List Nat) (r : Int) (v : Value) (s : St) : Prop := v = (Value.int .i64 r)
def p11 : Nat → (List (Int × Int)) → Int → Option Int
  | 0, _, _ => none
  | n + 1, p0, p1 => ((((loopP (pb11_1 n p0 p1) n (0, 0)).bind fun t64 => (some t64.1))))
theorem t11 (k : Nat) (p0 : (List (Int × Int))) (p1 : Int) (s0 : St) {A0 : Option Addr} {c0 : Nat} (h0 : Sr (rP (rI .i64) (rI .i64)) s0 A0 c0 p0) :
    Rf (p11 k p0 p1) (fun _ => True) (fun r => RtC s0.next [] [] s0 (P11 s0.next [] r)) (acall E k 11 [(Value.slice A0 (p0).length c0), (Value.int .i64 p1)] s0) := by
  cases k with
  | zero => exact Rf.none
  | succ n =>
    rw [e11 n]
    rw [p11]
    refine Rf.gen fun H Q hH hQ => ?_
    have C0 : Cx s0.next [] [] s0 s0 [] [] [] := Cx.start s0
    refine Rf.loop (Inv := Inv11_1 s0 p0 p1 A0 c0 h0 ) (Ex := Ex11_1 s0 p0 p1 A0 c0 h0 ) (x11_1 s0 p0 p1 A0 c0 h0 ) (fun t g s K Q h => b11_1 n s0 p0 p1 A0 c0 h0  t g s K Q h) n _ _ _ ⟨rfl, (C0.sub (List.Sublist.refl _) (List.Sublist.refl _) (List.Sublist.refl _))⟩ ?_
    intro t64 e g s87 h
    obtain ⟨rfl, rfl, C88⟩ := h
    rw [e11_after0_exit0 n]
    subst hH; subst hQ
    exact Rf.leaf fun _ => Ev.done (Rf.ret C88 rfl)
-- 12 "slices.Equal[[]byte,byte]"
abbrev Inv12_1 (s0 : St) (p0 : (List Int)) (p1 : (List Int)) (A0 : Option Addr) (c0 : Nat) (A1 : Option Addr) (c1 : Nat) (h0 : Sr (rI .u8) s0 A0 c0 p0) (h1 : Sr (rI .u8) s0 A1 c1 p1)  (t : Int) (g : Regs) (s : St) : Prop := g = (rg 26 [(0, (Value.slice A0 (p0).length c0)), (1, (Value.slice A1 (p1).length c1)), (12, (Value.int .i64 ((p0).length : Nat))), (13, (Value.int .i64 t))]) ∧ Cx s0.next [] [] s0 s [] [] []
abbrev Ex12_1 (s0 : St) (p0 : (List Int)) (p1 : (List Int)) (A0 : Option Addr) (c0 : Nat) (A1 : Option Addr) (c1 : Nat) (h0 : Sr (rI .u8) s0 A0 c0 p0) (h1 : Sr (rI .u8) s0 A1 c1 p1)  (t : (Int ⊕ Unit)) (e : X) (g : Regs) (s : St) : Prop := match t with
  | (.inl t) => e = .exit 0 ∧ g = (rg 26 [(0, (Value.slice A0 (p0).length c0)), (1, (Value.slice A1 (p1).length c1)), (12, (Value.int .i64 ((p0).length : Nat))), (13, (Value.int .i64 t)), (14, (Value.bool false))]) ∧ Cx s0.next [] [] s0 s [] [] []
  | (.inr t) => e = .ret ∧ g = (rg 26 [(4, (Value.bool false))]) ∧ Cx s0.next [] [] s0 s [] [] []
theorem x12_1 (s0 : St) (p0 : (List Int)) (p1 : (List Int)) (A0 : Option Addr) (c0 : Nat) (A1 : Option Addr) (c1 : Nat) (h0 : Sr (rI .u8) s0 A0 c0 p0) (h1 : Sr (rI .u8) s0 A1 c1 p1)  (t : (Int ⊕ Unit)) (e : X) (g : Regs) (s : St) (h : Ex12_1 s0 p0 p1 A0 c0 A1 c1 h0 h1  t e g s) : e ≠ .normal := by
  rcases t with t | t
  · obtain ⟨h, _⟩ := h
    rw [h]; intro hh; cases hh
  · obtain ⟨h, _⟩ := h
    rw [h]; intro hh; cases hh
def pb12_1 (n : Nat) (p0 : (List Int)) (p1 : (List Int)) (t : Int) : Option (Int ⊕ (Int ⊕ Unit)) :=
  (if (decide ((t : Int) < ((p0).length : Nat))) then (((rd p0 t (fun x31 => rd p1 t (fun x38 => (if ((x31 : Int) != x38) then ((((some (.inr (.inr ())))))) else (((some (.inl (IntKind.wrap .i64 (t + 1)))))))))))) else (((some (.inr (.inl t))))))
theorem b12_1 (n : Nat) (s0 : St) (p0 : (List Int)) (p1 : (List Int)) (A0 : Option Addr) (c0 : Nat) (A1 : Option Addr) (c1 : Nat) (h0 : Sr (rI .u8) s0 A0 c0 p0) (h1 : Sr (rI .u8) s0 A1 c1 p1)  (x1 : Int) (g : Regs) (s28 : St) (K : Kont) (Q : Out → St → Prop) (h : Inv12_1 s0 p0 p1 A0 c0 A1 c1 h0 h1  x1 g s28) :
    Rf (pb12_1 n p0 p1 x1) (fun r => ∀ e g' s', LK (Inv12_1 s0 p0 p1 A0 c0 A1 c1 h0 h1 ) (Ex12_1 s0 p0 p1 A0 c0 A1 c1 h0 h1 ) r e g' s' → Ev (K e g' s') Q) (fun _ => Q) (kBody E 12 n [.b, .b, .a, .b, .a, .a] g s28 K) := by
  obtain ⟨rfl, C29⟩ := h
  rw [e12_body0 n]
  unfold pb12_1
  refine Rf.gen fun H Q hH hQ => ?_
  refine Rf.ite ?_ ?_
  · refine Rf.elt (r := (rI .u8)) (C29.sr0 rfl h0) rfl fun x31 i32 o33 c34 r35 h36 => ?_
    obtain rfl := rI_elim r35
    refine Rf.ldI (h36.at 0 rfl) ?_
    refine Rf.elt (r := (rI .u8)) (C29.sr0 rfl h1) rfl fun x38 i39 o40 c41 r42 h43 => ?_
    obtain rfl := rI_elim r42
    refine Rf.ldI (h43.at 0 rfl) ?_
    refine Rf.ite ?_ ?_
    · subst hH; subst hQ
      exact Rf.leaf fun h => h _ _ _ ⟨rfl, rfl, (C29.sub (List.Sublist.refl _) (List.Sublist.refl _) (List.Sublist.refl _))⟩
    · subst hH; subst hQ
      exact Rf.leaf fun h => h _ _ _ ⟨rfl, rfl, (C29.sub (List.Sublist.refl _) (List.Sublist.refl _) (List.Sublist.refl _))⟩
  · subst hH; subst hQ
    exact Rf.leaf fun h => h _ _ _ ⟨rfl, rfl, (C29.sub (List.Sublist.refl _) (List.Sublist.refl _) (List.Sublist.refl _))⟩
abbrev P12 (N : Nat) (X : List Nat) (r : Bool) (v : Value) (s : St) : Prop := v = (Value.bool r)
def p12 : Nat → (List Int) → (List Int) → Option Bool
  | 0, _, _ => none
  | n + 1, p0, p1 => ((if ((((p0).length : Nat) : Int) != ((p1).length : Nat)) then (((some false))) else ((((loopP (pb12_1 n p0 p1) n 0).bind fun t104 => match t104 with | (.inl t46) => ((some true)) | (.inr t75) => (some false))))))
theorem t12 (k : Nat) (p0 : (List Int)) (p1 : (List Int)) (s0 : St) {A0 : Option Addr} {c0 : Nat} {A1 : Option Addr} {c1 : Nat} (h0 : Sr (rI .u8) s0 A0 c0 p0) (h1 : Sr (rI .u8) s0 A1 c1 p1) :
    Rf (p12 k p0 p1) (fun _ => True) (fun r => RtC s0.next [] [] s0 (P12 s0.next [] r)) (acall E k 12 [(Value.slice A0 (p0).length c0), (Value.slice A1 (p1).length c1)] s0) := by
  cases k with
  | zero => exact Rf.none
  | succ n =>
    rw [e12 n]
    rw [p12]
    refine Rf.gen fun H Q hH hQ => ?_
    have C0 : Cx s0.next [] [] s0 s0 [] [] [] := Cx.start s0
    refine Rf.ite ?_ ?_
    · subst hH; subst hQ
      exact Rf.leaf fun _ => Ev.done (Rf.ret C0 rfl)
    · refine Rf.loop (Inv := Inv12_1 s0 p0 p1 A0 c0 A1 c1 h0 h1 ) (Ex := Ex12_1 s0 p0 p1 A0 c0 A1 c1 h0 h1 ) (x12_1 s0 p0 p1 A0 c0 A1 c1 h0 h1 ) (fun t g s K Q h => b12_1 n s0 p0 p1 A0 c0 A1 c1 h0 h1  t g s K Q h) n _ _ _ ⟨rfl, (C0.sub (List.Sublist.refl _) (List.Sublist.refl _) (List.Sublist.refl _))⟩ ?_
      intro t e g s h
      rcases t with t46 | t75
      · generalize s = s73 at h ⊢
        obtain ⟨rfl, rfl, C74⟩ := h
        rw [e12_after0_exit0 n]
        subst hH; subst hQ
        exact Rf.leaf fun _ => Ev.done (Rf.ret C74 rfl)
      · generalize s = s102 at h ⊢
        obtain ⟨rfl, rfl, C103⟩ := h
        rw [e12_after0_ret n]
        subst hH; subst hQ
        exact Rf.leaf fun _ => Ev.done (Rf.ret C103 rfl)
-- 34 "brindlewood/brindlewoodref7.Septets"
abbrev P34 (N : Nat) (X : List Nat) (r : (List Int)) (v : Value) (s : St) : Prop := ∃ (A0 : Option Addr) (c0 : Nat) (e0 : Nat), v = (Value.slice A0 (r).length c0) ∧ (On.mk (rI .u8) r A0 c0 5 false e0).holds N X s
def p34 : Nat → Int → Option (List Int)
  | 0, _ => none
  | n + 1, p0 => ((if (decide ((p0 : Int) < 128)) then (((some [(IntKind.wrap .u8 p0)]))) else ((remP .i64 p0 128 (fun x4 => divP .i64 p0 128 (fun x8 => (p34 n x8).bind fun r9 => apP 1 [(IntKind.wrap .u8 (IntKind.wrap .i64 (128 + x4)))] r9 (fun y22 => (some ([(IntKind.wrap .u8 (IntKind.wrap .i64 (128 + x4)))] ++ r9)))))))))
theorem t34 (k : Nat) (p0 : Int) (s0 : St) :
    Rf (p34 k p0) (fun _ => True) (fun r => RtC s0.next [] [] s0 (P34 s0.next [] r)) (acall E k 34 [(Value.int .i64 p0)] s0) := by
  induction k generalizing p0 s0 with
  | zero => exact Rf.none
  | succ n ih =>
    rw [e34 n]
    rw [p34]
    refine Rf.gen fun H Q hH hQ => ?_
    have C0 : Cx s0.next [] [] s0 s0 [] [] [] := Cx.start s0
    refine Rf.ite ?_ ?_
    · refine Rf.newR (r := (rI .u8)) (xs := [(IntKind.wrap .u8 p0)]) C0 rfl (many.cons (c := [(Value.int .u8 (IntKind.wrap .u8 p0))]) rI_mk many.nil) fun s1 (C2 : Cx s0.next [] [] s0 s1 [] [(On.mk (rI .u8) [(IntKind.wrap .u8 p0)] (some ⟨s0.next, 0, none⟩) 1 5 false s0.next)] []) => ?_
      subst hH; subst hQ
      exact Rf.leaf fun _ => Ev.done (Rf.ret C2 ⟨_, _, _, rfl, C2.own _ m0⟩)
    · refine Rf.remI fun x4 => ?_
      refine Rf.newR (r := (rI .u8)) (xs := [(IntKind.wrap .u8 (IntKind.wrap .i64 (128 + x4)))]) C0 rfl (many.cons (c := [(Value.int .u8 (IntKind.wrap .u8 (IntKind.wrap .i64 (128 + x4))))]) rI_mk many.nil) fun s5 (C6 : Cx s0.next [] [] s0 s5 [] [(On.mk (rI .u8) [(IntKind.wrap .u8 (IntKind.wrap .i64 (128 + x4)))] (some ⟨s0.next, 0, none⟩) 1 5 false s0.next)] []) => ?_
      refine Rf.divI fun x8 => ?_
      refine Rf.call0 C6 (ih x8 s5) ?_
      rintro r9 _ s10 ⟨A11, c12, e14, rfl, h13⟩ h17
      have C18 : Cx s0.next [] [] s0 s10 [] [(On.mk (rI .u8) r9 A11 c12 5 false e14), (On.mk (rI .u8) [(IntKind.wrap .u8 (IntKind.wrap .i64 (128 + x4)))] (some ⟨s0.next, 0, none⟩) 1 5 false s0.next)] [] := h17 [(On.mk (rI .u8) r9 A11 c12 5 false e14)] (by simpa using h13) (List.pairwise_singleton _ _)
      refine (Rf.asSl ?_)
      refine Rf.kapp 1 C18 rfl rfl (by decide) (by decide) (Ap.sr u29 rfl (C18.srB m0)) fun A19 c20 e21 s24 (C25 : Cx s0.next [] [] s0 s24 [] [(On.mk (rI .u8) r9 A11 c12 5 false e14), (On.mk (rI .u8) ([(IntKind.wrap .u8 (IntKind.wrap .i64 (128 + x4)))] ++ r9) A19 c20 5 false e21)] []) => ?_
      subst hH; subst hQ
      exact Rf.leaf fun _ => Ev.done (Rf.ret C25 ⟨_, _, _, rfl, C25.own _ m1⟩)
-- 35 "brindlewood/brindlewoodref7.signedSeptets"
abbrev P35 (N : Nat) (X : List Nat) (r : (List Int)) (v : Value) (s : St) : Prop := ∃ (A0 : Option Addr) (c0 : Nat) (e0 : Nat), v = (Value.slice A0 (r).length c0) ∧ (On.mk (rI .u8) r A0 c0 5 false e0).holds N X s
def p35 : Nat → Int → Option (List Int)
  | 0, _ => none
  | n + 1, p0 => ((if (decide ((p0 : Int) < 0)) then ((p34 n (IntKind.wrap .i64 ((IntKind.wrap .i64 ((-2) * p0)) - 1))).bind fun r1 => ((some r1))) else (((p34 n (IntKind.wrap .i64 (2 * p0))).bind fun r11 => (some r11)))))
theorem t35 (k : Nat) (p0 : Int) (s0 : St) :
    Rf (p35 k p0) (fun _ => True) (fun r => RtC s0.next [] [] s0 (P35 s0.next [] r)) (acall E k 35 [(Value.int .i64 p0)] s0) := by
  cases k with
  | zero => exact Rf.none
  | succ n =>
    rw [e35 n]
    rw [p35]
    refine Rf.gen fun H Q hH hQ => ?_
    have C0 : Cx s0.next [] [] s0 s0 [] [] [] := Cx.start s0
    refine Rf.ite ?_ ?_
    · refine Rf.call0 C0 (t34 n (IntKind.wrap .i64 ((IntKind.wrap .i64 ((-2) * p0)) - 1)) s0) ?_
      rintro r1 _ s2 ⟨A3, c4, e6, rfl, h5⟩ h9
      have C10 : Cx s0.next [] [] s0 s2 [] [(On.mk (rI .u8) r1 A3 c4 5 false e6)] [] := h9 [(On.mk (rI .u8) r1 A3 c4 5 false e6)] (by simpa using h5) (List.pairwise_singleton _ _)
      refine (Rf.asSl ?_)
      subst hH; subst hQ
      exact Rf.leaf fun _ => Ev.done (Rf.ret C10 ⟨_, _, _, rfl, C10.own _ m0⟩)
    · refine Rf.call0 C0 (t34 n (IntKind.wrap .i64 (2 * p0)) s0) ?_
      rintro r11 _ s12 ⟨A13, c14, e16, rfl, h15⟩ h19
      have C20 : Cx s0.next [] [] s0 s12 [] [(On.mk (rI .u8) r11 A13 c14 5 false e16)] [] := h19 [(On.mk (rI .u8) r11 A13 c14 5 false e16)] (by simpa using h15) (List.pairwise_singleton _ _)
      refine (Rf.asSl ?_)
      subst hH; subst hQ
      exact Rf.leaf fun _ => Ev.done (Rf.ret C20 ⟨_, _, _, rfl, C20.own _ m0⟩)
-- 13 "brindlewood/brindlewoodref7.PackedMarks"
abbrev Inv13_1 (s0 : St) (p0 : (List (Int × Int))) (A0 : Option Addr) (c0 : Nat) (h0 : Sr (rP (rI .i64) (rI .i64)) s0 A0 c0 p0) (i16 : Nat) (t : ((List Int) × Int × Int × Int)) (g : Regs) (s : St) : Prop := ∃ (A9 : Option Addr) (c10 : Nat) (e12 : Nat), g = (rg 32 [(3, (Value.slice A9 (t.1).length c10)), (4, (Value.pointer (some ⟨i16, 0, none⟩))), (8, (Value.slice A0 (p0).length c0)), (9, (Value.int .i64 ((p0).length : Nat))), (10, (Value.int .i64 t.2.2.2))]) ∧ Cx s0.next [] [] s0 s [(i16, AObj.box 38 [(Value.int .i64 t.2.1), (Value.int .i64 t.2.2.1)])] [(On.mk (rI .u8) t.1 A9 c10 5 false e12)] []
abbrev Ex13_1 (s0 : St) (p0 : (List (Int × Int))) (A0 : Option Addr) (c0 : Nat) (h0 : Sr (rP (rI .i64) (rI .i64)) s0 A0 c0 p0) (i16 : Nat) (t : ((List Int) × Int × Int × Int)) (e : X) (g : Regs) (s : St) : Prop := ∃ (A134 : Option Addr) (c135 : Nat) (e137 : Nat), e = .exit 0 ∧ g = (rg 32 [(3, (Value.slice A134 (t.1).length c135)), (4, (Value.pointer (some ⟨i16, 0, none⟩))), (8, (Value.slice A0 (p0).length c0)), (9, (Value.int .i64 ((p0).length : Nat))), (10, (Value.int .i64 t.2.2.2)), (11, (Value.bool false))]) ∧ Cx s0.next [] [] s0 s [(i16, AObj.box 38 [(Value.int .i64 t.2.1), (Value.int .i64 t.2.2.1)])] [(On.mk (rI .u8) t.1 A134 c135 5 false e137)] []
theorem x13_1 (s0 : St) (p0 : (List (Int × Int))) (A0 : Option Addr) (c0 : Nat) (h0 : Sr (rP (rI .i64) (rI .i64)) s0 A0 c0 p0) (i16 : Nat) (t : ((List Int) × Int × Int × Int)) (e : X) (g : Regs) (s : St) (h : Ex13_1 s0 p0 A0 c0 h0 i16 t e g s) : e ≠ .normal := by
  obtain ⟨_, _, _, h, _⟩ := h
  rw [h]; intro hh; cases hh
def pb13_1 (n : Nat) (p0 : (List (Int × Int))) (t : ((List Int) × Int × Int × Int)) : Option (((List Int) × Int × Int × Int) ⊕ ((List Int) × Int × Int × Int)) :=
  (if (decide ((t.2.2.2 : Int) < ((p0).length : Nat))) then ((rd p0 t.2.2.2 (fun x52 => ((p34 n (IntKind.wrap .i64 (x52.1 - t.2.1))).bind fun r79 => apP 1 t.1 r79 (fun y94 => (p35 n (IntKind.wrap .i64 (x52.2 - t.2.2.1))).bind fun r107 => apP 1 y94 r107 (fun y122 => (((some (.inl (((t.1 ++ r79) ++ r107), x52.1, x52.2, (IntKind.wrap .i64 (t.2.2.2 + 1))))))))))))) else (((some (.inr (t.1, t.2.1, t.2.2.1, t.2.2.2))))))
theorem b13_1 (n : Nat) (s0 : St) (p0 : (List (Int × Int))) (A0 : Option Addr) (c0 : Nat) (h0 : Sr (rP (rI .i64) (rI .i64)) s0 A0 c0 p0) (i16 : Nat) (t : ((List Int) × Int × Int × Int)) (g : Regs) (s49 : St) (K : Kont) (Q : Out → St → Prop) (h : Inv13_1 s0 p0 A0 c0 h0 i16 t g s49) :
    Rf (pb13_1 n p0 t) (fun r => ∀ e g' s', LK (Inv13_1 s0 p0 A0 c0 h0 i16) (Ex13_1 s0 p0 A0 c0 h0 i16) r e g' s' → Ev (K e g' s') Q) (fun _ => Q) (kBody E 13 n [.b, .b, .b, .a, .b, .a, .a] g s49 K) := by
  obtain ⟨y11, x13, x14, x15⟩ := t
  obtain ⟨A9, c10, e12, rfl, C50⟩ := h
  rw [e13_body0 n]
  unfold pb13_1
  refine Rf.gen fun H Q hH hQ => ?_
  try dsimp only
  refine Rf.ite ?_ ?_
  · refine Rf.elt (r := (rP (rI .i64) (rI .i64))) (C50.sr0 rfl h0) rfl fun x52 i53 o54 c55 r56 h57 => ?_
    obtain ⟨c62, c63, rfl, r64, r65⟩ := rP_elim r56
    obtain rfl := rI_elim r64
    obtain rfl := rI_elim r65
    refine Rf.ldI (h57.at 0 rfl) ?_
    refine Rf.ldI (h57.at 1 rfl) ?_
    refine Rf.new C50 fun s68 (C69 : Cx s0.next [] [] s0 s68 [(s49.next, AObj.box 38 [(Value.int .i64 0), (Value.int .i64 0)]), (i16, AObj.box 38 [(Value.int .i64 x13), (Value.int .i64 x14)])] [(On.mk (rI .u8) y11 A9 c10 5 false e12)] []) => ?_
    refine Rf.sto 0 C69 rfl (by simp) rfl fun s71 (C72 : Cx s0.next [] [] s0 s71 [(s49.next, AObj.box 38 [(Value.int .i64 x52.1), (Value.int .i64 x52.2)]), (i16, AObj.box 38 [(Value.int .i64 x13), (Value.int .i64 x14)])] [(On.mk (rI .u8) y11 A9 c10 5 false e12)] []) => ?_
    refine Rf.ifp (C72.isB m0) ?_
    refine Rf.ldI (C72.at m0 rfl) ?_
    refine Rf.ifp (C72.isB m1) ?_
    refine Rf.ldI (C72.at m1 rfl) ?_
    refine Rf.call0A C72 (t34 n (IntKind.wrap .i64 (x52.1 - x13)) { s71 with lowb := s71.next }) ?_
    rintro r79 _ s80 ⟨A81, c82, e84, rfl, h83⟩ h88 h87
    have C90 : Cx s0.next [] [] s0 { s80 with lowb := min s71.lowb s80.lowb } [(s49.next, AObj.box 38 [(Value.int .i64 x52.1), (Value.int .i64 x52.2)]), (i16, AObj.box 38 [(Value.int .i64 x13), (Value.int .i64 x14)])] [(On.mk (rI .u8) r79 A81 c82 5 false e84), (On.mk (rI .u8) y11 A9 c10 5 false e12)] [] := h87 [(On.mk (rI .u8) r79 A81 c82 5 false e84)] (by simpa using h83) (List.pairwise_singleton _ _)
    refine (Rf.asSl ?_)
    refine Rf.ifp h88 ?_
    refine Rf.lt ?_
    generalize { s80 with lowb := min s71.lowb s80.lowb } = s89 at C90 ⊢
    refine Rf.kappA 1 C90 rfl rfl (by decide) (by decide) (Ap.sr u29 rfl (C90.lb.srB m0)) fun A91 c92 e93 s98 h99 (C97 : Cx s0.next [] [] s0 { s98 with lowb := min s89.lowb s98.lowb } [(s49.next, AObj.box 38 [(Value.int .i64 x52.1), (Value.int .i64 x52.2)]), (i16, AObj.box 38 [(Value.int .i64 x13), (Value.int .i64 x14)])] [(On.mk (rI .u8) r79 A81 c82 5 false e84), (On.mk (rI .u8) (y11 ++ r79) A91 c92 5 false e93)] []) => ?_
    refine Rf.ifp h99 ?_
    refine Rf.lt ?_
    generalize { s98 with lowb := min s89.lowb s98.lowb } = s96 at C97 ⊢
    refine Rf.ifp (C97.isB m0) ?_
    refine Rf.ldI (C97.at m0 rfl) ?_
    refine Rf.ifp (C97.isB m1) ?_
    refine Rf.ldI (C97.at m1 rfl) ?_
    refine Rf.call0A C97 (t35 n (IntKind.wrap .i64 (x52.2 - x14)) { s96 with lowb := s96.next }) ?_
    rintro r107 _ s108 ⟨A109, c110, e112, rfl, h111⟩ h116 h115
    have C118 : Cx s0.next [] [] s0 { s108 with lowb := min s96.lowb s108.lowb } [(s49.next, AObj.box 38 [(Value.int .i64 x52.1), (Value.int .i64 x52.2)]), (i16, AObj.box 38 [(Value.int .i64 x13), (Value.int .i64 x14)])] [(On.mk (rI .u8) r107 A109 c110 5 false e112), (On.mk (rI .u8) r79 A81 c82 5 false e84), (On.mk (rI .u8) (y11 ++ r79) A91 c92 5 false e93)] [] := h115 [(On.mk (rI .u8) r107 A109 c110 5 false e112)] (by simpa using h111) (List.pairwise_singleton _ _)
    refine (Rf.asSl ?_)
    refine Rf.ifp h116 ?_
    refine Rf.lt ?_
    generalize { s108 with lowb := min s96.lowb s108.lowb } = s117 at C118 ⊢
    refine Rf.kappA 2 C118 rfl rfl (by decide) (by decide) (Ap.sr u29 rfl (C118.lb.srB m0)) fun A119 c120 e121 s126 h127 (C125 : Cx s0.next [] [] s0 { s126 with lowb := min s117.lowb s126.lowb } [(s49.next, AObj.box 38 [(Value.int .i64 x52.1), (Value.int .i64 x52.2)]), (i16, AObj.box 38 [(Value.int .i64 x13), (Value.int .i64 x14)])] [(On.mk (rI .u8) r107 A109 c110 5 false e112), (On.mk (rI .u8) r79 A81 c82 5 false e84), (On.mk (rI .u8) ((y11 ++ r79) ++ r107) A119 c120 5 false e121)] []) => ?_
    refine Rf.ifp h127 ?_
    refine Rf.lt ?_
    generalize { s126 with lowb := min s117.lowb s126.lowb } = s124 at C125 ⊢
    refine Rf.ldI (C125.at m0 rfl) ?_
    refine Rf.ldI (C125.at m0 rfl) ?_
    refine Rf.sto 1 C125 rfl (by simp) rfl fun s131 (C132 : Cx s0.next [] [] s0 s131 [(s49.next, AObj.box 38 [(Value.int .i64 x52.1), (Value.int .i64 x52.2)]), (i16, AObj.box 38 [(Value.int .i64 x52.1), (Value.int .i64 x52.2)])] [(On.mk (rI .u8) r107 A109 c110 5 false e112), (On.mk (rI .u8) r79 A81 c82 5 false e84), (On.mk (rI .u8) ((y11 ++ r79) ++ r107) A119 c120 5 false e121)] []) => ?_
    subst hH; subst hQ
    exact Rf.leaf fun h => h _ _ _ ⟨rfl, _, _, _, rfl, (C132.sub (List.Sublist.cons _ (List.Sublist.cons_cons _ List.Sublist.slnil)) (List.Sublist.cons _ (List.Sublist.cons _ (List.Sublist.cons_cons _ List.Sublist.slnil))) (List.Sublist.refl _))⟩
  · subst hH; subst hQ
    exact Rf.leaf fun h => h _ _ _ ⟨_, _, _, rfl, rfl, (C50.sub (List.Sublist.refl _) (List.Sublist.refl _) (List.Sublist.refl _))⟩
abbrev P13 (N : Nat) (X : List Nat) (r : (List Int)) (v : Value) (s : St) : Prop := ∃ (A0 : Option Addr) (c0 : Nat) (e0 : Nat), v = (Value.slice A0 (r).length c0) ∧ (On.mk (rI .u8) r A0 c0 5 false e0).holds N X s
def p13 : Nat → (List (Int × Int)) → Option (List Int)
  | 0, _ => none
  | n + 1, p0 => (((((loopP (pb13_1 n p0) n (([] : List Int), 0, 0, 0)).bind fun t141 => (some t141.1)))))
theorem t13 (k : Nat) (p0 : (List (Int × Int))) (s0 : St) {A0 : Option Addr} {c0 : Nat} (h0 : Sr (rP (rI .i64) (rI .i64)) s0 A0 c0 p0) :
    Rf (p13 k p0) (fun _ => True) (fun r => RtC s0.next [] [] s0 (P13 s0.next [] r)) (acall E k 13 [(Value.slice A0 (p0).length c0)] s0) := by
  cases k with
  | zero => exact Rf.none
  | succ n =>
    rw [e13 n]
    rw [p13]
    refine Rf.gen fun H Q hH hQ => ?_
    have C0 : Cx s0.next [] [] s0 s0 [] [] [] := Cx.start s0
    refine Rf.new C0 fun s1 (C2 : Cx s0.next [] [] s0 s1 [(s0.next, AObj.box 38 [(Value.int .i64 0), (Value.int .i64 0)])] [] []) => ?_
    refine Rf.sto 0 C2 rfl (by simp) rfl fun s4 (C5 : Cx s0.next [] [] s0 s4 [(s0.next, AObj.box 38 [(Value.int .i64 0), (Value.int .i64 0)])] [] []) => ?_
    have C6 : Cx s0.next [] [] s0 s4 [(s0.next, AObj.box 38 [(Value.int .i64 0), (Value.int .i64 0)])] [(On.mk (rI .u8) ([] : List Int) none 0 5 false 0)] [] := C5.addNil (rI .u8) 5
    refine Rf.loop (Inv := Inv13_1 s0 p0 A0 c0 h0 s0.next) (Ex := Ex13_1 s0 p0 A0 c0 h0 s0.next) (x13_1 s0 p0 A0 c0 h0 s0.next) (fun t g s K Q h => b13_1 n s0 p0 A0 c0 h0 s0.next t g s K Q h) n _ _ _ ⟨_, _, _, rfl, (C6.sub (List.Sublist.refl _) (List.Sublist.refl _) (List.Sublist.refl _))⟩ ?_
    intro t141 e g s174 h
    obtain ⟨A134, c135, e137, rfl, rfl, C175⟩ := h
    rw [e13_after0_exit0 n]
    subst hH; subst hQ
    exact Rf.leaf fun _ => Ev.done (Rf.ret C175 ⟨_, _, _, rfl, C175.own _ m0⟩)
-- 36 "(*brindlewood/tables.reader).number"
abbrev Inv36_1 (s0 : St) (p0 : ((List Int) × Int)) (b0 : Nat) (A0_1 : Option Addr) (c0_1 : Nat) (h0 : s0.get b0 = some (AObj.box 71 [(Value.slice A0_1 (p0.1).length c0_1), (Value.int .i64 p0.2)])) (g0 : b0 < s0.next) (h0_1 : Sr (rI .u8) s0 A0_1 c0_1 p0.1)  (t : (Int × Int × Int)) (g : Regs) (s : St) : Prop := g = (rg 54 [(0, (Value.pointer (some ⟨b0, 0, none⟩))), (4, (Value.int .i64 t.2.1)), (5, (Value.int .i64 t.2.2))]) ∧ Cx s0.next [b0] [b0] s0 s [(b0, AObj.box 71 [(Value.slice A0_1 (p0.1).length c0_1), (Value.int .i64 t.1)])] [] []
abbrev Ex36_1 (s0 : St) (p0 : ((List Int) × Int)) (b0 : Nat) (A0_1 : Option Addr) (c0_1 : Nat) (h0 : s0.get b0 = some (AObj.box 71 [(Value.slice A0_1 (p0.1).length c0_1), (Value.int .i64 p0.2)])) (g0 : b0 < s0.next) (h0_1 : Sr (rI .u8) s0 A0_1 c0_1 p0.1)  (t : ((Int × Int × Int) ⊕ (Int × Bool × Int))) (e : X) (g : Regs) (s : St) : Prop := match t with
  | (.inl t) => e = .exit 0 ∧ g = (rg 54 [(0, (Value.pointer (some ⟨b0, 0, none⟩))), (4, (Value.int .i64 t.2.1)), (5, (Value.int .i64 t.2.2)), (8, (Value.bool false))]) ∧ Cx s0.next [b0] [b0] s0 s [(b0, AObj.box 71 [(Value.slice A0_1 (p0.1).length c0_1), (Value.int .i64 t.1)])] [] []
  | (.inr t) => e = .ret ∧ g = (rg 54 [(2, (Value.int .i64 t.1)), (3, (Value.bool t.2.1))]) ∧ Cx s0.next [b0] [b0] s0 s [(b0, AObj.box 71 [(Value.slice A0_1 (p0.1).length c0_1), (Value.int .i64 t.2.2)])] [] []
theorem x36_1 (s0 : St) (p0 : ((List Int) × Int)) (b0 : Nat) (A0_1 : Option Addr) (c0_1 : Nat) (h0 : s0.get b0 = some (AObj.box 71 [(Value.slice A0_1 (p0.1).length c0_1), (Value.int .i64 p0.2)])) (g0 : b0 < s0.next) (h0_1 : Sr (rI .u8) s0 A0_1 c0_1 p0.1)  (t : ((Int × Int × Int) ⊕ (Int × Bool × Int))) (e : X) (g : Regs) (s : St) (h : Ex36_1 s0 p0 b0 A0_1 c0_1 h0 g0 h0_1  t e g s) : e ≠ .normal := by
  rcases t with t | t
  · obtain ⟨h, _⟩ := h
    rw [h]; intro hh; cases hh
  · obtain ⟨h, _⟩ := h
    rw [h]; intro hh; cases hh
def pb36_1 (n : Nat) (p0 : ((List Int) × Int)) (t : (Int × Int × Int)) : Option ((Int × Int × Int) ⊕ ((Int × Int × Int) ⊕ (Int × Bool × Int))) :=
  (if (decide ((t.2.2 : Int) ≤ 14)) then (((if (decide ((t.1 : Int) ≥ ((p0.1).length : Nat))) then (((((some (.inr (.inr (0, false, t.1)))))))) else ((rd p0.1 t.1 (fun x77 => ((shlP .i64 (IntKind.wrap .i64 (((BitVec.ofInt (IntKind.bits .i64) (IntKind.wrap .i64 x77) &&& BitVec.ofInt (IntKind.bits .i64) 127).toNat : Nat))) t.2.2 (fun x93 => ((if (decide (((IntKind.wrap .i64 x77) : Int) < 128)) then (pj (fun (x95 : Int) (b96 : Bool) => ((some (.inr (.inr (x95, b96, (IntKind.wrap .i64 (t.1 + 1)))))))) (fun J94 => if (decide (((IntKind.wrap .i64 x77) : Int) > 0)) then ((J94 (IntKind.wrap .i64 (((BitVec.ofInt (IntKind.bits .i64) t.2.1 ||| BitVec.ofInt (IntKind.bits .i64) x93).toNat : Nat))) true)) else ((J94 (IntKind.wrap .i64 (((BitVec.ofInt (IntKind.bits .i64) t.2.1 ||| BitVec.ofInt (IntKind.bits .i64) x93).toNat : Nat))) ((t.2.2 : Int) == 0))))) else (((some (.inl ((IntKind.wrap .i64 (t.1 + 1)), (IntKind.wrap .i64 (((BitVec.ofInt (IntKind.bits .i64) t.2.1 ||| BitVec.ofInt (IntKind.bits .i64) x93).toNat : Nat))), (IntKind.wrap .i64 (t.2.2 + 7)))))))))))))))))) else (((some (.inr (.inl (t.1, t.2.1, t.2.2)))))))
theorem b36_1 (n : Nat) (s0 : St) (p0 : ((List Int) × Int)) (b0 : Nat) (A0_1 : Option Addr) (c0_1 : Nat) (h0 : s0.get b0 = some (AObj.box 71 [(Value.slice A0_1 (p0.1).length c0_1), (Value.int .i64 p0.2)])) (g0 : b0 < s0.next) (h0_1 : Sr (rI .u8) s0 A0_1 c0_1 p0.1)  (t : (Int × Int × Int)) (g : Regs) (s58 : St) (K : Kont) (Q : Out → St → Prop) (h : Inv36_1 s0 p0 b0 A0_1 c0_1 h0 g0 h0_1  t g s58) :
    Rf (pb36_1 n p0 t) (fun r => ∀ e g' s', LK (Inv36_1 s0 p0 b0 A0_1 c0_1 h0 g0 h0_1 ) (Ex36_1 s0 p0 b0 A0_1 c0_1 h0 g0 h0_1 ) r e g' s' → Ev (K e g' s') Q) (fun _ => Q) (kBody E 36 n [.b, .b, .a, .b, .a, .a] g s58 K) := by
  obtain ⟨x1, x2, x3⟩ := t
  obtain ⟨rfl, C59⟩ := h
  rw [e36_body0 n]
  unfold pb36_1
  refine Rf.gen fun H Q hH hQ => ?_
  try dsimp only
  refine Rf.ite ?_ ?_
  · refine Rf.nilc ?_
    refine Rf.adr1 ?_
    refine Rf.ldI (C59.at m0 rfl) ?_
    refine Rf.nilc ?_
    refine Rf.adr1 ?_
    refine Rf.ldSl (C59.at m0 rfl) ?_
    refine Rf.ite ?_ ?_
    · subst hH; subst hQ
      exact Rf.leaf fun h => h _ _ _ ⟨rfl, rfl, (C59.sub (List.Sublist.refl _) (List.Sublist.refl _) (List.Sublist.refl _))⟩
    · refine Rf.nilc ?_
      refine Rf.adr1 ?_
      refine Rf.ldSl (C59.at m0 rfl) ?_
      refine Rf.nilc ?_
      refine Rf.adr1 ?_
      refine Rf.ldI (C59.at m0 rfl) ?_
      refine Rf.elt (r := (rI .u8)) (C59.sr0 rfl h0_1) rfl fun x77 i78 o79 c80 r81 h82 => ?_
      obtain rfl := rI_elim r81
      refine Rf.ldI (h82.at 0 rfl) ?_
      refine Rf.nilc ?_
      refine Rf.adr1 ?_
      refine Rf.ldI (C59.at m0 rfl) ?_
      refine Rf.nilc ?_
      refine Rf.adr1 ?_
      refine Rf.sto 0 C59 rfl (by simp) rfl fun s91 (C92 : Cx s0.next [b0] [b0] s0 s91 [(b0, AObj.box 71 [(Value.slice A0_1 (p0.1).length c0_1), (Value.int .i64 (IntKind.wrap .i64 (x1 + 1)))])] [] []) => ?_
      refine Rf.shlI fun x93 => ?_
      refine Rf.ite ?_ ?_
      · refine Rf.pj fun J94 J94' hJ94 hJ94' => ?_
        have J94h : ∀ (x95 : Int) (b96 : Bool) (_ : Cx s0.next [b0] [b0] s0 s91 [(b0, AObj.box 71 [(Value.slice A0_1 (p0.1).length c0_1), (Value.int .i64 (IntKind.wrap .i64 (x1 + 1)))])] [] []), Rf (J94 x95 b96) H Q (J94' x95 b96) := by
          subst hJ94
          subst hJ94'
          intro x95 b96 C99
          subst hH; subst hQ
          exact Rf.leaf fun h => h _ _ _ ⟨rfl, rfl, (C99.sub (List.Sublist.refl _) (List.Sublist.refl _) (List.Sublist.refl _))⟩
        clear hJ94 hJ94'
        refine Rf.ite ?_ ?_
        · exact J94h (IntKind.wrap .i64 (((BitVec.ofInt (IntKind.bits .i64) x2 ||| BitVec.ofInt (IntKind.bits .i64) x93).toNat : Nat))) true (C92.sub (List.Sublist.refl _) (List.Sublist.refl _) (List.Sublist.refl _))
        · exact J94h (IntKind.wrap .i64 (((BitVec.ofInt (IntKind.bits .i64) x2 ||| BitVec.ofInt (IntKind.bits .i64) x93).toNat : Nat))) ((x3 : Int) == 0) (C92.sub (List.Sublist.refl _) (List.Sublist.refl _) (List.Sublist.refl _))
      · subst hH; subst hQ
        exact Rf.leaf fun h => h _ _ _ ⟨rfl, rfl, (C92.sub (List.Sublist.refl _) (List.Sublist.refl _) (List.Sublist.refl _))⟩
  · subst hH; subst hQ
    exact Rf.leaf fun h => h _ _ _ ⟨rfl, rfl, (C59.sub (List.Sublist.refl _) (List.Sublist.refl _) (List.Sublist.refl _))⟩
abbrev P36 (N : Nat) (X : List Nat) (b0 : Nat) (r : (Int × Bool × ((List Int) × Int))) (v : Value) (s : St) : Prop := ∃ (A0 : Option Addr) (c0 : Nat), v = (Value.tuple #[(Value.int .i64 r.1), (Value.bool r.2.1)]) ∧ Sr (rI .u8) s A0 c0 r.2.2.1 ∧ s.get b0 = some (AObj.box 71 [(Value.slice A0 (r.2.2.1).length c0), (Value.int .i64 r.2.2.2)])
def p36 : Nat → ((List Int) × Int) → Option (Int × Bool × ((List Int) × Int))
  | 0, _ => none
  | n + 1, p0 => ((((loopP (pb36_1 n p0) n (p0.2, 0, 0)).bind fun t220 => match t220 with | (.inl t106) => ((some (0, false, (p0.1, t106.1)))) | (.inr t163) => (some (t163.1, t163.2.1, (p0.1, t163.2.2))))))
theorem t36 (k : Nat) (p0 : ((List Int) × Int)) (s0 : St) {b0 : Nat} {A0_1 : Option Addr} {c0_1 : Nat} (h0 : s0.get b0 = some (AObj.box 71 [(Value.slice A0_1 (p0.1).length c0_1), (Value.int .i64 p0.2)])) (g0 : b0 < s0.next) (h0_1 : Sr (rI .u8) s0 A0_1 c0_1 p0.1) :
    Rf (p36 k p0) (fun _ => True) (fun r => RtC s0.next [b0] [b0] s0 (P36 s0.next [b0] b0 r)) (acall E k 36 [(Value.pointer (some ⟨b0, 0, none⟩))] s0) := by
  cases k with
  | zero => exact Rf.none
  | succ n =>
    rw [e36 n]
    rw [p36]
    refine Rf.gen fun H Q hH hQ => ?_
    have C0 : Cx s0.next [b0] [b0] s0 s0 [(b0, AObj.box 71 [(Value.slice A0_1 (p0.1).length c0_1), (Value.int .i64 p0.2)])] [] [] := Cx.startB h0 g0
    refine Rf.loop (Inv := Inv36_1 s0 p0 b0 A0_1 c0_1 h0 g0 h0_1 ) (Ex := Ex36_1 s0 p0 b0 A0_1 c0_1 h0 g0 h0_1 ) (x36_1 s0 p0 b0 A0_1 c0_1 h0 g0 h0_1 ) (fun t g s K Q h => b36_1 n s0 p0 b0 A0_1 c0_1 h0 g0 h0_1  t g s K Q h) n _ _ _ ⟨rfl, (C0.sub (List.Sublist.refl _) (List.Sublist.refl _) (List.Sublist.refl _))⟩ ?_
    intro t e g s h
    rcases t with t106 | t163
    · generalize s = s161 at h ⊢
      obtain ⟨rfl, rfl, C162⟩ := h
      rw [e36_after0_exit0 n]
      subst hH; subst hQ
      exact Rf.leaf fun _ => Ev.done (Rf.ret C162 ⟨_, _, rfl, (C162.sr0 rfl h0_1), (C162.obj _ m0).1⟩)
    · generalize s = s218 at h ⊢
      obtain ⟨rfl, rfl, C219⟩ := h
      rw [e36_after0_ret n]
      subst hH; subst hQ
      exact Rf.leaf fun _ => Ev.done (Rf.ret C219 ⟨_, _, rfl, (C219.sr0 rfl h0_1), (C219.obj _ m0).1⟩)
-- 37 "brindlewood/tables.unfold"
abbrev P37 (N : Nat) (X : List Nat) (r : Int) (v : Value) (s : St) : Prop := v = (Value.int .i64 r)
def p37 : Nat → Int → Option Int
  | 0, _ => none
  | n + 1, p0 => (pj (fun (x3 : Int) => divP .i64 x3 2 (fun x7 => (some x7))) (fun J2 => remP .i64 p0 2 (fun x1 => (if ((x1 : Int) == 1) then ((J2 (IntKind.wrap .i64 ((IntKind.wrap .i64 (0 - p0)) - 1)))) else ((J2 p0))))))
theorem t37 (k : Nat) (p0 : Int) (s0 : St) :
    Rf (p37 k p0) (fun _ => True) (fun r => RtC s0.next [] [] s0 (P37 s0.next [] r)) (acall E k 37 [(Value.int .i64 p0)] s0) := by
  cases k with
  | zero => exact Rf.none
  | succ n =>
    rw [e37 n]
    rw [p37]
    refine Rf.gen fun H Q hH hQ => ?_
    have C0 : Cx s0.next [] [] s0 s0 [] [] [] := Cx.start s0
    refine Rf.pj fun J2 J2' hJ2 hJ2' => ?_
    have J2h : ∀ (e5 : Value) (x3 : Int) (_ : Cx s0.next [] [] s0 s0 [] [] []), Rf (J2 x3) H Q (J2' x3 e5) := by
      subst hJ2
      subst hJ2'
      intro e5 x3 C6
      refine Rf.divI fun x7 => ?_
      subst hH; subst hQ
      exact Rf.leaf fun _ => Ev.done (Rf.ret C6 rfl)
    clear hJ2 hJ2'
    refine Rf.remI fun x1 => ?_
    refine Rf.ite ?_ ?_
    · exact J2h _ (IntKind.wrap .i64 ((IntKind.wrap .i64 (0 - p0)) - 1)) (C0.sub (List.Sublist.refl _) (List.Sublist.refl _) (List.Sublist.refl _))
    · exact J2h _ p0 (C0.sub (List.Sublist.refl _) (List.Sublist.refl _) (List.Sublist.refl _))
-- 14 "brindlewood/tables.UnpackLines"
abbrev Inv14_1 (s0 : St) (p0 : (List Int)) (A0 : Option Addr) (c0 : Nat) (h0 : Sr (rI .u8) s0 A0 c0 p0) (i23 : Nat) (i24 : Nat) (t : ((List Int) × Int × (List (Int × Int)) × Int × Int)) (g : Regs) (s : St) : Prop := ∃ (A8 : Option Addr) (c9 : Nat) (A17 : Option Addr) (c18 : Nat) (e20 : Nat), g = (rg 69 [(0, (Value.slice A0 (p0).length c0)), (3, (Value.pointer (some ⟨i24, 0, none⟩))), (4, (Value.pointer (some ⟨i23, 0, none⟩))), (5, (Value.slice A17 (t.2.2.1).length c18)), (6, (Value.int .i64 t.2.2.2.1)), (7, (Value.int .i64 t.2.2.2.2))]) ∧ Cx s0.next [] [] s0 s [(i23, AObj.box 71 [(Value.slice A8 (t.1).length c9), (Value.int .i64 t.2.1)]), (i24, AObj.box 24 [(Value.int .i64 0), (Value.int .i64 0)])] [(On.mk (rP (rI .i64) (rI .i64)) t.2.2.1 A17 c18 38 false e20)] [(Fa.sr (rI .u8) A8 c9 t.1)]
abbrev Ex14_1 (s0 : St) (p0 : (List Int)) (A0 : Option Addr) (c0 : Nat) (h0 : Sr (rI .u8) s0 A0 c0 p0) (i23 : Nat) (i24 : Nat) (t : (((List Int) × Int × (List (Int × Int)) × Int × Int) ⊕ (Int × Int))) (e : X) (g : Regs) (s : St) : Prop := match t with
  | (.inl t) => ∃ (A161 : Option Addr) (c162 : Nat) (A166 : Option Addr) (c167 : Nat) (e169 : Nat), e = .exit 0 ∧ g = (rg 69 [(0, (Value.slice A0 (p0).length c0)), (3, (Value.pointer (some ⟨i24, 0, none⟩))), (4, (Value.pointer (some ⟨i23, 0, none⟩))), (5, (Value.slice A166 (t.2.2.1).length c167)), (6, (Value.int .i64 t.2.2.2.1)), (7, (Value.int .i64 t.2.2.2.2)), (23, (Value.bool false))]) ∧ Cx s0.next [] [] s0 s [(i23, AObj.box 71 [(Value.slice A161 (t.1).length c162), (Value.int .i64 t.2.1)]), (i24, AObj.box 24 [(Value.int .i64 0), (Value.int .i64 0)])] [(On.mk (rP (rI .i64) (rI .i64)) t.2.2.1 A166 c167 38 false e169)] [(Fa.sr (rI .u8) A161 c162 t.1)]
  | (.inr t) => e = .ret ∧ g = (rg 69 [(2, (Value.slice none 0 0)), (3, (Value.pointer (some ⟨i24, 0, none⟩)))]) ∧ Cx s0.next [] [] s0 s [(i24, AObj.box 24 [(Value.int .i64 t.1), (Value.int .i64 t.2)])] [] []
theorem x14_1 (s0 : St) (p0 : (List Int)) (A0 : Option Addr) (c0 : Nat) (h0 : Sr (rI .u8) s0 A0 c0 p0) (i23 : Nat) (i24 : Nat) (t : (((List Int) × Int × (List (Int × Int)) × Int × Int) ⊕ (Int × Int))) (e : X) (g : Regs) (s : St) (h : Ex14_1 s0 p0 A0 c0 h0 i23 i24 t e g s) : e ≠ .normal := by
  rcases t with t | t
  · obtain ⟨_, _, _, _, _, h, _⟩ := h
    rw [h]; intro hh; cases hh
  · obtain ⟨h, _⟩ := h
    rw [h]; intro hh; cases hh
def pb14_1 (n : Nat) (p0 : (List Int)) (t : ((List Int) × Int × (List (Int × Int)) × Int × Int)) : Option (((List Int) × Int × (List (Int × Int)) × Int × Int) ⊕ (((List Int) × Int × (List (Int × Int)) × Int × Int) ⊕ (Int × Int))) :=
  (if (decide ((t.2.1 : Int) < ((p0).length : Nat))) then ((((p36 n (t.1, t.2.1)).bind fun r103 => ((p36 n (r103.2.2.1, r103.2.2.2)).bind fun r115 => (pj (fun (y131 : (List Int)) (b132 : Bool) => if b132 then ((p28 n 16 t.2.1).bind fun r135 => (((some (.inr (.inr (r135.1, r135.2))))))) else (((p37 n r115.1).bind fun r143 => (apP 16 t.2.2.1 [((IntKind.wrap .i64 (t.2.2.2.1 + r103.1)), (IntKind.wrap .i64 (t.2.2.2.2 + r143)))] (fun y154 => (some (.inl (y131, r115.2.2.2, (t.2.2.1 ++ [((IntKind.wrap .i64 (t.2.2.2.1 + r103.1)), (IntKind.wrap .i64 (t.2.2.2.2 + r143)))]), (IntKind.wrap .i64 (t.2.2.2.1 + r103.1)), (IntKind.wrap .i64 (t.2.2.2.2 + r143)))))))))) (fun J127 => if (!r103.2.1) then ((J127 r115.2.2.1 true)) else ((J127 r115.2.2.1 (!r115.2.1))))))))) else (((some (.inr (.inl (t.1, t.2.1, t.2.2.1, t.2.2.2.1, t.2.2.2.2)))))))
theorem b14_1 (n : Nat) (s0 : St) (p0 : (List Int)) (A0 : Option Addr) (c0 : Nat) (h0 : Sr (rI .u8) s0 A0 c0 p0) (i23 : Nat) (i24 : Nat) (t : ((List Int) × Int × (List (Int × Int)) × Int × Int)) (g : Regs) (s94 : St) (K : Kont) (Q : Out → St → Prop) (h : Inv14_1 s0 p0 A0 c0 h0 i23 i24 t g s94) :
    Rf (pb14_1 n p0 t) (fun r => ∀ e g' s', LK (Inv14_1 s0 p0 A0 c0 h0 i23 i24) (Ex14_1 s0 p0 A0 c0 h0 i23 i24) r e g' s' → Ev (K e g' s') Q) (fun _ => Q) (kBody E 14 n [.b, .b, .b, .b, .a, .a, .a] g s94 K) := by
  obtain ⟨y10, x13, y19, x21, x22⟩ := t
  obtain ⟨A8, c9, A17, c18, e20, rfl, C95⟩ := h
  rw [e14_body0 n]
  unfold pb14_1
  refine Rf.gen fun H Q hH hQ => ?_
  try dsimp only
  refine Rf.ldI (C95.at m0 rfl) ?_
  refine Rf.ite ?_ ?_
  · refine Rf.ldI (C95.at m0 rfl) ?_
    refine Rf.callB 0 C95 rfl (t36 n (y10, x13) s94 (C95.obj _ m0).1 (C95.obj _ m0).2.1 (C95.srG m0)) ?_
    rintro r103 _ s104 ⟨A105, c106, rfl, h107, h109⟩ h112
    have C113 : Cx s0.next [] [] s0 s104 [(i23, AObj.box 71 [(Value.slice A105 (r103.2.2.1).length c106), (Value.int .i64 r103.2.2.2)]), (i24, AObj.box 24 [(Value.int .i64 0), (Value.int .i64 0)])] [(On.mk (rP (rI .i64) (rI .i64)) y19 A17 c18 38 false e20)] [(Fa.sr (rI .u8) A8 c9 y10)] := h112 _ h109 [] (by simp) List.Pairwise.nil
    have C114 := C113.add (Fa.sr (rI .u8) A105 c106 r103.2.2.1) h107
    refine (Rf.asTup (Rf.unc (Rf.asI (Rf.unc (Rf.asB (Rf.unn ?_))))))
    refine Rf.callB 0 C114 rfl (t36 n (r103.2.2.1, r103.2.2.2) s104 (C114.obj _ m0).1 (C114.obj _ m0).2.1 (C114.srG m0)) ?_
    rintro r115 _ s116 ⟨A117, c118, rfl, h119, h121⟩ h124
    have C125 : Cx s0.next [] [] s0 s116 [(i23, AObj.box 71 [(Value.slice A117 (r115.2.2.1).length c118), (Value.int .i64 r115.2.2.2)]), (i24, AObj.box 24 [(Value.int .i64 0), (Value.int .i64 0)])] [(On.mk (rP (rI .i64) (rI .i64)) y19 A17 c18 38 false e20)] [(Fa.sr (rI .u8) A105 c106 r103.2.2.1), (Fa.sr (rI .u8) A8 c9 y10)] := h124 _ h121 [] (by simp) List.Pairwise.nil
    have C126 := C125.add (Fa.sr (rI .u8) A117 c118 r115.2.2.1) h119
    refine (Rf.asTup (Rf.unc (Rf.asI (Rf.unc (Rf.asB (Rf.unn ?_))))))
    refine Rf.pj fun J127 J127' hJ127 hJ127' => ?_
    have J127h : ∀ (A129 : Option Addr) (c130 : Nat) (y131 : (List Int)) (b132 : Bool) (_ : Cx s0.next [] [] s0 s116 [(i23, AObj.box 71 [(Value.slice A129 (y131).length c130), (Value.int .i64 r115.2.2.2)]), (i24, AObj.box 24 [(Value.int .i64 0), (Value.int .i64 0)])] [(On.mk (rP (rI .i64) (rI .i64)) y19 A17 c18 38 false e20)] [(Fa.sr (rI .u8) A129 c130 y131)]), Rf (J127 y131 b132) H Q (J127' b132) := by
      subst hJ127
      subst hJ127'
      intro A129 c130 y131 b132 C134
      refine Rf.ite ?_ ?_
      · refine Rf.call0 C134 (t28 n 16 x13 s116) ?_
        rintro r135 _ s136 rfl h139
        have C140 : Cx s0.next [] [] s0 s136 [(i23, AObj.box 71 [(Value.slice A129 (y131).length c130), (Value.int .i64 r115.2.2.2)]), (i24, AObj.box 24 [(Value.int .i64 0), (Value.int .i64 0)])] [(On.mk (rP (rI .i64) (rI .i64)) y19 A17 c18 38 false e20)] [(Fa.sr (rI .u8) A129 c130 y131)] := h139 [] (by simp) List.Pairwise.nil
        refine (Rf.asAgg (Rf.unc (Rf.asI (Rf.unc (Rf.asI (Rf.unn ?_))))))
        refine Rf.sto 1 C140 rfl (by simp) rfl fun s141 (C142 : Cx s0.next [] [] s0 s141 [(i23, AObj.box 71 [(Value.slice A129 (y131).length c130), (Value.int .i64 r115.2.2.2)]), (i24, AObj.box 24 [(Value.int .i64 r135.1), (Value.int .i64 r135.2)])] [(On.mk (rP (rI .i64) (rI .i64)) y19 A17 c18 38 false e20)] [(Fa.sr (rI .u8) A129 c130 y131)]) => ?_
        subst hH; subst hQ
        exact Rf.leaf fun h => h _ _ _ ⟨rfl, rfl, (C142.sub (List.Sublist.cons _ (List.Sublist.cons_cons _ List.Sublist.slnil)) (List.Sublist.cons _ List.Sublist.slnil) (List.Sublist.cons _ List.Sublist.slnil))⟩
      · refine Rf.call0 C134 (t37 n r115.1 s116) ?_
        rintro r143 _ s144 rfl h146
        have C147 : Cx s0.next [] [] s0 s144 [(i23, AObj.box 71 [(Value.slice A129 (y131).length c130), (Value.int .i64 r115.2.2.2)]), (i24, AObj.box 24 [(Value.int .i64 0), (Value.int .i64 0)])] [(On.mk (rP (rI .i64) (rI .i64)) y19 A17 c18 38 false e20)] [(Fa.sr (rI .u8) A129 c130 y131)] := h146 [] (by simp) List.Pairwise.nil
        refine (Rf.asI ?_)
        refine Rf.newR (r := (rP (rI .i64) (rI .i64))) (xs := [((IntKind.wrap .i64 (x21 + r103.1)), (IntKind.wrap .i64 (x22 + r143)))]) C147 rfl (many.cons (c := [(Value.int .i64 (IntKind.wrap .i64 (x21 + r103.1))), (Value.int .i64 (IntKind.wrap .i64 (x22 + r143)))]) (rP_mk rI_mk rI_mk) many.nil) fun s148 (C149 : Cx s0.next [] [] s0 s148 [(i23, AObj.box 71 [(Value.slice A129 (y131).length c130), (Value.int .i64 r115.2.2.2)]), (i24, AObj.box 24 [(Value.int .i64 0), (Value.int .i64 0)])] [(On.mk (rP (rI .i64) (rI .i64)) [((IntKind.wrap .i64 (x21 + r103.1)), (IntKind.wrap .i64 (x22 + r143)))] (some ⟨s144.next, 0, none⟩) 1 38 false s144.next), (On.mk (rP (rI .i64) (rI .i64)) y19 A17 c18 38 false e20)] [(Fa.sr (rI .u8) A129 c130 y131)]) => ?_
        refine Rf.kapp 1 C149 rfl rfl (by decide) (by decide) (Ap.sr u22 rfl (C149.srB m0)) fun A151 c152 e153 s156 (C157 : Cx s0.next [] [] s0 s156 [(i23, AObj.box 71 [(Value.slice A129 (y131).length c130), (Value.int .i64 r115.2.2.2)]), (i24, AObj.box 24 [(Value.int .i64 0), (Value.int .i64 0)])] [(On.mk (rP (rI .i64) (rI .i64)) [((IntKind.wrap .i64 (x21 + r103.1)), (IntKind.wrap .i64 (x22 + r143)))] (some ⟨s144.next, 0, none⟩) 1 38 false s144.next), (On.mk (rP (rI .i64) (rI .i64)) (y19 ++ [((IntKind.wrap .i64 (x21 + r103.1)), (IntKind.wrap .i64 (x22 + r143)))]) A151 c152 38 false e153)] [(Fa.sr (rI .u8) A129 c130 y131)]) => ?_
        have C158 : Cx s0.next [] [] s0 s156 [(i23, AObj.box 71 [(Value.slice A129 (y131).length c130), (Value.int .i64 r115.2.2.2)]), (i24, AObj.box 24 [(Value.int .i64 0), (Value.int .i64 0)])] [(On.mk (rP (rI .i64) (rI .i64)) (y19 ++ [((IntKind.wrap .i64 (x21 + r103.1)), (IntKind.wrap .i64 (x22 + r143)))]) A151 c152 38 false e153)] [(Fa.sr (rI .u8) A129 c130 y131)] := C157.sub (List.Sublist.refl _) (List.Sublist.cons _ (List.Sublist.cons_cons _ List.Sublist.slnil)) (List.Sublist.refl _)
        subst hH; subst hQ
        exact Rf.leaf fun h => h _ _ _ ⟨rfl, _, _, _, _, _, rfl, (C158.sub (List.Sublist.refl _) (List.Sublist.refl _) (List.Sublist.refl _))⟩
    clear hJ127 hJ127'
    refine Rf.ite ?_ ?_
    · exact J127h A117 c118 r115.2.2.1 true (C126.sub (List.Sublist.refl _) (List.Sublist.refl _) (List.Sublist.cons_cons _ (List.Sublist.cons _ (List.Sublist.cons _ List.Sublist.slnil))))
    · exact J127h A117 c118 r115.2.2.1 (!r115.2.1) (C126.sub (List.Sublist.refl _) (List.Sublist.refl _) (List.Sublist.cons_cons _ (List.Sublist.cons _ (List.Sublist.cons _ List.Sublist.slnil))))
  · subst hH; subst hQ
    exact Rf.leaf fun h => h _ _ _ ⟨_, _, _, _, _, rfl, rfl, (C95.sub (List.Sublist.refl _) (List.Sublist.refl _) (List.Sublist.refl _))⟩
abbrev P14 (N : Nat) (X : List Nat) (r : ((List (Int × Int)) × (Int × Int))) (v : Value) (s : St) : Prop := ∃ (A0 : Option Addr) (c0 : Nat) (e0 : Nat), v = (Value.tuple #[(Value.slice A0 (r.1).length c0), (Value.agg #[(Value.int .i64 r.2.1), (Value.int .i64 r.2.2)])]) ∧ (On.mk (rP (rI .i64) (rI .i64)) r.1 A0 c0 38 false e0).holds N X s
def p14 : Nat → (List Int) → Option ((List (Int × Int)) × (Int × Int))
  | 0, _ => none
  | n + 1, p0 => (((((loopP (pb14_1 n p0) n (p0, 0, ([] : List (Int × Int)), 0, 0)).bind fun t350 => match t350 with | (.inl t174) => ((p27 n t174.2.2.1).bind fun r246 => ((if (!(((r246.1 : Int) == 0) && (((r246.2 : Int) == 0) && true))) then ((p28 n r246.1 (-1)).bind fun r262 => ((some (([] : (List (Int × Int))), (r262.1, r262.2))))) else (((some (t174.2.2.1, (0, 0)))))))) | (.inr t276) => (some (([] : (List (Int × Int))), (t276.1, t276.2)))))))
theorem t14 (k : Nat) (p0 : (List Int)) (s0 : St) {A0 : Option Addr} {c0 : Nat} (h0 : Sr (rI .u8) s0 A0 c0 p0) :
    Rf (p14 k p0) (fun _ => True) (fun r => RtC s0.next [] [] s0 (P14 s0.next [] r)) (acall E k 14 [(Value.slice A0 (p0).length c0)] s0) := by
  cases k with
  | zero => exact Rf.none
  | succ n =>
    rw [e14 n]
    rw [p14]
    refine Rf.gen fun H Q hH hQ => ?_
    have C0 : Cx s0.next [] [] s0 s0 [] [] [] := Cx.start s0
    refine Rf.new C0 fun s1 (C2 : Cx s0.next [] [] s0 s1 [(s0.next, AObj.box 24 [(Value.int .i64 0), (Value.int .i64 0)])] [] []) => ?_
    refine Rf.new C2 fun s4 (C5 : Cx s0.next [] [] s0 s4 [(s1.next, AObj.box 71 [(Value.slice A0 (p0).length c0), (Value.int .i64 0)]), (s0.next, AObj.box 24 [(Value.int .i64 0), (Value.int .i64 0)])] [] []) => ?_
    have C12 := C5.add (Fa.sr (rI .u8) A0 c0 p0) (C5.sr0 rfl h0)
    have C14 : Cx s0.next [] [] s0 s4 [(s1.next, AObj.box 71 [(Value.slice A0 (p0).length c0), (Value.int .i64 0)]), (s0.next, AObj.box 24 [(Value.int .i64 0), (Value.int .i64 0)])] [(On.mk (rP (rI .i64) (rI .i64)) ([] : List (Int × Int)) none 0 38 false 0)] [(Fa.sr (rI .u8) A0 c0 p0)] := C12.addNil (rP (rI .i64) (rI .i64)) 38
    refine Rf.loop (Inv := Inv14_1 s0 p0 A0 c0 h0 s1.next s0.next) (Ex := Ex14_1 s0 p0 A0 c0 h0 s1.next s0.next) (x14_1 s0 p0 A0 c0 h0 s1.next s0.next) (fun t g s K Q h => b14_1 n s0 p0 A0 c0 h0 s1.next s0.next t g s K Q h) n _ _ _ ⟨_, _, _, _, _, rfl, (C14.sub (List.Sublist.refl _) (List.Sublist.refl _) (List.Sublist.refl _))⟩ ?_
    intro t e g s h
    rcases t with t174 | t276
    · generalize s = s244 at h ⊢
      obtain ⟨A161, c162, A166, c167, e169, rfl, rfl, C245⟩ := h
      rw [e14_after0_exit0 n]
      refine Rf.call0 C245 (t27 n t174.2.2.1 s244 (C245.srB m0)) ?_
      rintro r246 _ s247 rfl h250
      have C251 : Cx s0.next [] [] s0 s247 [(s1.next, AObj.box 71 [(Value.slice A161 (t174.1).length c162), (Value.int .i64 t174.2.1)]), (s0.next, AObj.box 24 [(Value.int .i64 0), (Value.int .i64 0)])] [(On.mk (rP (rI .i64) (rI .i64)) t174.2.2.1 A166 c167 38 false e169)] [(Fa.sr (rI .u8) A161 c162 t174.1)] := h250 [] (by simp) List.Pairwise.nil
      refine (Rf.asAgg (Rf.unc (Rf.asI (Rf.unc (Rf.asI (Rf.unn ?_))))))
      refine Rf.new C251 fun s252 (C253 : Cx s0.next [] [] s0 s252 [(s247.next, AObj.box 24 [(Value.int .i64 0), (Value.int .i64 0)]), (s1.next, AObj.box 71 [(Value.slice A161 (t174.1).length c162), (Value.int .i64 t174.2.1)]), (s0.next, AObj.box 24 [(Value.int .i64 0), (Value.int .i64 0)])] [(On.mk (rP (rI .i64) (rI .i64)) t174.2.2.1 A166 c167 38 false e169)] [(Fa.sr (rI .u8) A161 c162 t174.1)]) => ?_
      refine Rf.sto 0 C253 rfl (by simp) rfl fun s255 (C256 : Cx s0.next [] [] s0 s255 [(s247.next, AObj.box 24 [(Value.int .i64 r246.1), (Value.int .i64 r246.2)]), (s1.next, AObj.box 71 [(Value.slice A161 (t174.1).length c162), (Value.int .i64 t174.2.1)]), (s0.next, AObj.box 24 [(Value.int .i64 0), (Value.int .i64 0)])] [(On.mk (rP (rI .i64) (rI .i64)) t174.2.2.1 A166 c167 38 false e169)] [(Fa.sr (rI .u8) A161 c162 t174.1)]) => ?_
      refine Rf.ldI (C256.at m0 rfl) ?_
      refine Rf.ldI (C256.at m0 rfl) ?_
      refine Rf.ite ?_ ?_
      · refine Rf.ldI (C256.at m0 rfl) ?_
        refine Rf.call0 C256 (t28 n r246.1 (-1) s255) ?_
        rintro r262 _ s263 rfl h266
        have C267 : Cx s0.next [] [] s0 s263 [(s247.next, AObj.box 24 [(Value.int .i64 r246.1), (Value.int .i64 r246.2)]), (s1.next, AObj.box 71 [(Value.slice A161 (t174.1).length c162), (Value.int .i64 t174.2.1)]), (s0.next, AObj.box 24 [(Value.int .i64 0), (Value.int .i64 0)])] [(On.mk (rP (rI .i64) (rI .i64)) t174.2.2.1 A166 c167 38 false e169)] [(Fa.sr (rI .u8) A161 c162 t174.1)] := h266 [] (by simp) List.Pairwise.nil
        refine (Rf.asAgg (Rf.unc (Rf.asI (Rf.unc (Rf.asI (Rf.unn ?_))))))
        refine Rf.sto 2 C267 rfl (by simp) rfl fun s268 (C269 : Cx s0.next [] [] s0 s268 [(s247.next, AObj.box 24 [(Value.int .i64 r246.1), (Value.int .i64 r246.2)]), (s1.next, AObj.box 71 [(Value.slice A161 (t174.1).length c162), (Value.int .i64 t174.2.1)]), (s0.next, AObj.box 24 [(Value.int .i64 r262.1), (Value.int .i64 r262.2)])] [(On.mk (rP (rI .i64) (rI .i64)) t174.2.2.1 A166 c167 38 false e169)] [(Fa.sr (rI .u8) A161 c162 t174.1)]) => ?_
        refine Rf.ldI (C269.at m2 rfl) ?_
        refine Rf.ldI (C269.at m2 rfl) ?_
        subst hH; subst hQ
        exact Rf.leaf fun _ => Ev.done (Rf.ret C269 ⟨none, 0, 0, rfl, .inl ⟨rfl, rfl, rfl⟩⟩)
      · refine Rf.sto 2 C256 rfl (by simp) rfl fun s272 (C273 : Cx s0.next [] [] s0 s272 [(s247.next, AObj.box 24 [(Value.int .i64 r246.1), (Value.int .i64 r246.2)]), (s1.next, AObj.box 71 [(Value.slice A161 (t174.1).length c162), (Value.int .i64 t174.2.1)]), (s0.next, AObj.box 24 [(Value.int .i64 0), (Value.int .i64 0)])] [(On.mk (rP (rI .i64) (rI .i64)) t174.2.2.1 A166 c167 38 false e169)] [(Fa.sr (rI .u8) A161 c162 t174.1)]) => ?_
        refine Rf.ldI (C273.at m2 rfl) ?_
        refine Rf.ldI (C273.at m2 rfl) ?_
        subst hH; subst hQ
        exact Rf.leaf fun _ => Ev.done (Rf.ret C273 ⟨_, _, _, rfl, C273.own _ m0⟩)
    · generalize s = s346 at h ⊢
      obtain ⟨rfl, rfl, C347⟩ := h
      rw [e14_after0_ret n]
      refine Rf.ldI (C347.at m0 rfl) ?_
      refine Rf.ldI (C347.at m0 rfl) ?_
      subst hH; subst hQ
      exact Rf.leaf fun _ => Ev.done (Rf.ret C347 ⟨none, 0, 0, rfl, .inl ⟨rfl, rfl, rfl⟩⟩)
-- 15 "slices.Equal[[]brindlewood/api.LineMark,brindlewood/api.LineMark]"
abbrev Inv15_1 (s0 : St) (p0 : (List (Int × Int))) (p1 : (List (Int × Int))) (A0 : Option Addr) (c0 : Nat) (A1 : Option Addr) (c1 : Nat) (h0 : Sr (rP (rI .i64) (rI .i64)) s0 A0 c0 p0) (h1 : Sr (rP (rI .i64) (rI .i64)) s0 A1 c1 p1)  (t : Int) (g : Regs) (s : St) : Prop := g = (rg 26 [(0, (Value.slice A0 (p0).length c0)), (1, (Value.slice A1 (p1).length c1)), (12, (Value.int .i64 ((p0).length : Nat))), (13, (Value.int .i64 t))]) ∧ Cx s0.next [] [] s0 s [] [] []
abbrev Ex15_1 (s0 : St) (p0 : (List (Int × Int))) (p1 : (List (Int × Int))) (A0 : Option Addr) (c0 : Nat) (A1 : Option Addr) (c1 : Nat) (h0 : Sr (rP (rI .i64) (rI .i64)) s0 A0 c0 p0) (h1 : Sr (rP (rI .i64) (rI .i64)) s0 A1 c1 p1)  (t : (Int ⊕ Unit)) (e : X) (g : Regs) (s : St) : Prop := match t with
  | (.inl t) => e = .exit 0 ∧ g = (rg 26 [(0, (Value.slice A0 (p0).length c0)), (1, (Value.slice A1 (p1).length c1)), (12, (Value.int .i64 ((p0).length : Nat))), (13, (Value.int .i64 t)), (14, (Value.bool false))]) ∧ Cx s0.next [] [] s0 s [] [] []
  | (.inr t) => e = .ret ∧ g = (rg 26 [(4, (Value.bool false))]) ∧ Cx s0.next [] [] s0 s [] [] []
theorem x15_1 (s0 : St) (p0 : (List (Int × Int))) (p1 : (List (Int × Int))) (A0 : Option Addr) (c0 : Nat) (A1 : Option Addr) (c1 : Nat) (h0 : Sr (rP (rI .i64) (rI .i64)) s0 A0 c0 p0) (h1 : Sr (rP (rI .i64) (rI .i64)) s0 A1 c1 p1)  (t : (Int ⊕ Unit)) (e : X) (g : Regs) (s : St) (h : Ex15_1 s0 p0 p1 A0 c0 A1 c1 h0 h1  t e g s) : e ≠ .normal := by
  rcases t with t | t
  · obtain ⟨h, _⟩ := h
    rw [h]; intro hh; cases hh
  · obtain ⟨h, _⟩ := h
    rw [h]; intro hh; cases hh
def pb15_1 (n : Nat) (p0 : (List (Int × Int))) (p1 : (List (Int × Int))) (t : Int) : Option (Int ⊕ (Int ⊕ Unit)) :=
  (if (decide ((t : Int) < ((p0).length : Nat))) then (((rd p0 t (fun x31 => rd p1 t (fun x47 => (if (!(((x31.1 : Int) == x47.1) && (((x31.2 : Int) == x47.2) && true))) then ((((some (.inr (.inr ())))))) else (((some (.inl (IntKind.wrap .i64 (t + 1)))))))))))) else (((some (.inr (.inl t))))))
theorem b15_1 (n : Nat) (s0 : St) (p0 : (List (Int × Int))) (p1 : (List (Int × Int))) (A0 : Option Addr) (c0 : Nat) (A1 : Option Addr) (c1 : Nat) (h0 : Sr (rP (rI .i64) (rI .i64)) s0 A0 c0 p0) (h1 : Sr (rP (rI .i64) (rI .i64)) s0 A1 c1 p1)  (x1 : Int) (g : Regs) (s28 : St) (K : Kont) (Q : Out → St → Prop) (h : Inv15_1 s0 p0 p1 A0 c0 A1 c1 h0 h1  x1 g s28) :
    Rf (pb15_1 n p0 p1 x1) (fun r => ∀ e g' s', LK (Inv15_1 s0 p0 p1 A0 c0 A1 c1 h0 h1 ) (Ex15_1 s0 p0 p1 A0 c0 A1 c1 h0 h1 ) r e g' s' → Ev (K e g' s') Q) (fun _ => Q) (kBody E 15 n [.b, .b, .a, .b, .a, .a] g s28 K) := by
  obtain ⟨rfl, C29⟩ := h
  rw [e15_body0 n]
  unfold pb15_1
  refine Rf.gen fun H Q hH hQ => ?_
  refine Rf.ite ?_ ?_
  · refine Rf.elt (r := (rP (rI .i64) (rI .i64))) (C29.sr0 rfl h0) rfl fun x31 i32 o33 c34 r35 h36 => ?_
    obtain ⟨c41, c42, rfl, r43, r44⟩ := rP_elim r35
    obtain rfl := rI_elim r43
    obtain rfl := rI_elim r44
    refine Rf.ldI (h36.at 0 rfl) ?_
    refine Rf.ldI (h36.at 1 rfl) ?_
    refine Rf.elt (r := (rP (rI .i64) (rI .i64))) (C29.sr0 rfl h1) rfl fun x47 i48 o49 c50 r51 h52 => ?_
    obtain ⟨c57, c58, rfl, r59, r60⟩ := rP_elim r51
    obtain rfl := rI_elim r59
    obtain rfl := rI_elim r60
    refine Rf.ldI (h52.at 0 rfl) ?_
    refine Rf.ldI (h52.at 1 rfl) ?_
    refine Rf.ite ?_ ?_
    · subst hH; subst hQ
      exact Rf.leaf fun h => h _ _ _ ⟨rfl, rfl, (C29.sub (List.Sublist.refl _) (List.Sublist.refl _) (List.Sublist.refl _))⟩
    · subst hH; subst hQ
      exact Rf.leaf fun h => h _ _ _ ⟨rfl, rfl, (C29.sub (List.Sublist.refl _) (List.Sublist.refl _) (List.Sublist.refl _))⟩
  · subst hH; subst hQ
    exact Rf.leaf fun h => h _ _ _ ⟨rfl, rfl, (C29.sub (List.Sublist.refl _) (List.Sublist.refl _) (List.Sublist.refl _))⟩
abbrev P15 (N : Nat) (X : List Nat) (r : Bool) (v : Value) (s : St) : Prop := v = (Value.bool r)
def p15 : Nat → (List (Int × Int)) → (List (Int × Int)) → Option Bool
  | 0, _, _ => none
  | n + 1, p0, p1 => ((if ((((p0).length : Nat) : Int) != ((p1).length : Nat)) then (((some false))) else ((((loopP (pb15_1 n p0 p1) n 0).bind fun t122 => match t122 with | (.inl t64) => ((some true)) | (.inr t93) => (some false))))))
theorem t15 (k : Nat) (p0 : (List (Int × Int))) (p1 : (List (Int × Int))) (s0 : St) {A0 : Option Addr} {c0 : Nat} {A1 : Option Addr} {c1 : Nat} (h0 : Sr (rP (rI .i64) (rI .i64)) s0 A0 c0 p0) (h1 : Sr (rP (rI .i64) (rI .i64)) s0 A1 c1 p1) :
    Rf (p15 k p0 p1) (fun _ => True) (fun r => RtC s0.next [] [] s0 (P15 s0.next [] r)) (acall E k 15 [(Value.slice A0 (p0).length c0), (Value.slice A1 (p1).length c1)] s0) := by
  cases k with
  | zero => exact Rf.none
  | succ n =>
    rw [e15 n]
    rw [p15]
    refine Rf.gen fun H Q hH hQ => ?_
    have C0 : Cx s0.next [] [] s0 s0 [] [] [] := Cx.start s0
    refine Rf.ite ?_ ?_
    · subst hH; subst hQ
      exact Rf.leaf fun _ => Ev.done (Rf.ret C0 rfl)
    · refine Rf.loop (Inv := Inv15_1 s0 p0 p1 A0 c0 A1 c1 h0 h1 ) (Ex := Ex15_1 s0 p0 p1 A0 c0 A1 c1 h0 h1 ) (x15_1 s0 p0 p1 A0 c0 A1 c1 h0 h1 ) (fun t g s K Q h => b15_1 n s0 p0 p1 A0 c0 A1 c1 h0 h1  t g s K Q h) n _ _ _ ⟨rfl, (C0.sub (List.Sublist.refl _) (List.Sublist.refl _) (List.Sublist.refl _))⟩ ?_
      intro t e g s h
      rcases t with t64 | t93
      · generalize s = s91 at h ⊢
        obtain ⟨rfl, rfl, C92⟩ := h
        rw [e15_after0_exit0 n]
        subst hH; subst hQ
        exact Rf.leaf fun _ => Ev.done (Rf.ret C92 rfl)
      · generalize s = s120 at h ⊢
        obtain ⟨rfl, rfl, C121⟩ := h
        rw [e15_after0_ret n]
        subst hH; subst hQ
        exact Rf.leaf fun _ => Ev.done (Rf.ret C121 rfl)
-- 38 "brindlewood/brindlewoodref7.Septet"
abbrev Inv38_1 (s0 : St) (p0 : (List Int)) (p1 : Int) (A0 : Option Addr) (c0 : Nat) (b1 : Nat) (h0 : Sr (rI .u8) s0 A0 c0 p0) (h1 : s0.get b1 = some (AObj.box 3 [(Value.int .i64 p1)])) (g1 : b1 < s0.next)  (t : (Int × Int × Int × Int)) (g : Regs) (s : St) : Prop := g = (rg 49 [(0, (Value.slice A0 (p0).length c0)), (1, (Value.pointer (some ⟨b1, 0, none⟩))), (6, (Value.int .i64 t.2.1)), (7, (Value.int .i64 t.2.2.1)), (8, (Value.int .i64 t.2.2.2))]) ∧ Cx s0.next [b1] [b1] s0 s [(b1, AObj.box 3 [(Value.int .i64 t.1)])] [] []
abbrev Ex38_1 (s0 : St) (p0 : (List Int)) (p1 : Int) (A0 : Option Addr) (c0 : Nat) (b1 : Nat) (h0 : Sr (rI .u8) s0 A0 c0 p0) (h1 : s0.get b1 = some (AObj.box 3 [(Value.int .i64 p1)])) (g1 : b1 < s0.next)  (t : (Int × Int × Int)) (e : X) (g : Regs) (s : St) : Prop := e = .ret ∧ g = (rg 49 [(4, (Value.int .i64 t.1)), (5, (Value.int .i64 t.2.1))]) ∧ Cx s0.next [b1] [b1] s0 s [(b1, AObj.box 3 [(Value.int .i64 t.2.2)])] [] []
theorem x38_1 (s0 : St) (p0 : (List Int)) (p1 : Int) (A0 : Option Addr) (c0 : Nat) (b1 : Nat) (h0 : Sr (rI .u8) s0 A0 c0 p0) (h1 : s0.get b1 = some (AObj.box 3 [(Value.int .i64 p1)])) (g1 : b1 < s0.next)  (t : (Int × Int × Int)) (e : X) (g : Regs) (s : St) (h : Ex38_1 s0 p0 p1 A0 c0 b1 h0 h1 g1  t e g s) : e ≠ .normal := by
  obtain ⟨h, _⟩ := h
  rw [h]; intro hh; cases hh
def pb38_1 (n : Nat) (p0 : (List Int)) (t : (Int × Int × Int × Int)) : Option ((Int × Int × Int × Int) ⊕ (Int × Int × Int)) :=
  (if (decide ((t.1 : Int) ≥ ((p0).length : Nat))) then (((((some (.inr (0, 15, t.1))))))) else (((if ((t.2.2.2 : Int) == 3) then (((((some (.inr (0, 16, t.1))))))) else ((rd p0 t.1 (fun x61 => ((remP .i64 (IntKind.wrap .i64 x61) 128 (fun x73 => (((if (decide (((IntKind.wrap .i64 x61) : Int) < 128)) then (pj (fun (b75 : Bool) => if b75 then (((((some (.inr (0, 16, (IntKind.wrap .i64 (t.1 + 1))))))))) else (((((some (.inr ((IntKind.wrap .i64 (t.2.1 + (IntKind.wrap .i64 (x73 * t.2.2.1)))), 0, (IntKind.wrap .i64 (t.1 + 1)))))))))) (fun J74 => if (((IntKind.wrap .i64 x61) : Int) == 0) then ((J74 (decide ((t.2.2.2 : Int) > 0)))) else ((J74 false)))) else (((some (.inl ((IntKind.wrap .i64 (t.1 + 1)), (IntKind.wrap .i64 (t.2.1 + (IntKind.wrap .i64 (x73 * t.2.2.1)))), (IntKind.wrap .i64 (t.2.2.1 * 128)), (IntKind.wrap .i64 (t.2.2.2 + 1))))))))))))))))))))
theorem b38_1 (n : Nat) (s0 : St) (p0 : (List Int)) (p1 : Int) (A0 : Option Addr) (c0 : Nat) (b1 : Nat) (h0 : Sr (rI .u8) s0 A0 c0 p0) (h1 : s0.get b1 = some (AObj.box 3 [(Value.int .i64 p1)])) (g1 : b1 < s0.next)  (t : (Int × Int × Int × Int)) (g : Regs) (s54 : St) (K : Kont) (Q : Out → St → Prop) (h : Inv38_1 s0 p0 p1 A0 c0 b1 h0 h1 g1  t g s54) :
    Rf (pb38_1 n p0 t) (fun r => ∀ e g' s', LK (Inv38_1 s0 p0 p1 A0 c0 b1 h0 h1 g1 ) (Ex38_1 s0 p0 p1 A0 c0 b1 h0 h1 g1 ) r e g' s' → Ev (K e g' s') Q) (fun _ => Q) (kBody E 38 n [.b, .b, .b, .a, .a] g s54 K) := by
  obtain ⟨x1, x2, x3, x4⟩ := t
  obtain ⟨rfl, C55⟩ := h
  rw [e38_body0 n]
  unfold pb38_1
  refine Rf.gen fun H Q hH hQ => ?_
  try dsimp only
  refine Rf.nilc ?_
  refine Rf.adr1 ?_
  refine Rf.ldI (C55.at m0 rfl) ?_
  refine Rf.ite ?_ ?_
  · subst hH; subst hQ
    exact Rf.leaf fun h => h _ _ _ ⟨rfl, rfl, (C55.sub (List.Sublist.refl _) (List.Sublist.refl _) (List.Sublist.refl _))⟩
  · refine Rf.ite ?_ ?_
    · subst hH; subst hQ
      exact Rf.leaf fun h => h _ _ _ ⟨rfl, rfl, (C55.sub (List.Sublist.refl _) (List.Sublist.refl _) (List.Sublist.refl _))⟩
    · refine Rf.nilc ?_
      refine Rf.adr1 ?_
      refine Rf.ldI (C55.at m0 rfl) ?_
      refine Rf.elt (r := (rI .u8)) (C55.sr0 rfl h0) rfl fun x61 i62 o63 c64 r65 h66 => ?_
      obtain rfl := rI_elim r65
      refine Rf.ldI (h66.at 0 rfl) ?_
      refine Rf.nilc ?_
      refine Rf.adr1 ?_
      refine Rf.ldI (C55.at m0 rfl) ?_
      refine Rf.nilc ?_
      refine Rf.adr1 ?_
      refine Rf.sto 0 C55 rfl (by simp) rfl fun s71 (C72 : Cx s0.next [b1] [b1] s0 s71 [(b1, AObj.box 3 [(Value.int .i64 (IntKind.wrap .i64 (x1 + 1)))])] [] []) => ?_
      refine Rf.remI fun x73 => ?_
      refine Rf.ite ?_ ?_
      · refine Rf.pj fun J74 J74' hJ74 hJ74' => ?_
        have J74h : ∀ (b75 : Bool) (_ : Cx s0.next [b1] [b1] s0 s71 [(b1, AObj.box 3 [(Value.int .i64 (IntKind.wrap .i64 (x1 + 1)))])] [] []), Rf (J74 b75) H Q (J74' b75) := by
          subst hJ74
          subst hJ74'
          intro b75 C77
          refine Rf.ite ?_ ?_
          · subst hH; subst hQ
            exact Rf.leaf fun h => h _ _ _ ⟨rfl, rfl, (C77.sub (List.Sublist.refl _) (List.Sublist.refl _) (List.Sublist.refl _))⟩
          · subst hH; subst hQ
            exact Rf.leaf fun h => h _ _ _ ⟨rfl, rfl, (C77.sub (List.Sublist.refl _) (List.Sublist.refl _) (List.Sublist.refl _))⟩
        clear hJ74 hJ74'
        refine Rf.ite ?_ ?_
        · exact J74h (decide ((x4 : Int) > 0)) (C72.sub (List.Sublist.refl _) (List.Sublist.refl _) (List.Sublist.refl _))
        · exact J74h false (C72.sub (List.Sublist.refl _) (List.Sublist.refl _) (List.Sublist.refl _))
      · subst hH; subst hQ
        exact Rf.leaf fun h => h _ _ _ ⟨rfl, rfl, (C72.sub (List.Sublist.refl _) (List.Sublist.refl _) (List.Sublist.refl _))⟩
abbrev P38 (N : Nat) (X : List Nat) (b0 : Nat) (r : (Int × Int × Int)) (v : Value) (s : St) : Prop := v = (Value.tuple #[(Value.int .i64 r.1), (Value.int .i64 r.2.1)]) ∧ s.get b0 = some (AObj.box 3 [(Value.int .i64 r.2.2)])
def p38 : Nat → (List Int) → Int → Option (Int × Int × Int)
  | 0, _, _ => none
  | n + 1, p0, p1 => ((((loopP (pb38_1 n p0) n (p1, 0, 1, 0)).bind fun t81 => some (t81.1, t81.2.1, t81.2.2))))
theorem t38 (k : Nat) (p0 : (List Int)) (p1 : Int) (s0 : St) {A0 : Option Addr} {c0 : Nat} {b1 : Nat} (h0 : Sr (rI .u8) s0 A0 c0 p0) (h1 : s0.get b1 = some (AObj.box 3 [(Value.int .i64 p1)])) (g1 : b1 < s0.next) :
    Rf (p38 k p0 p1) (fun _ => True) (fun r => RtC s0.next [b1] [b1] s0 (P38 s0.next [b1] b1 r)) (acall E k 38 [(Value.slice A0 (p0).length c0), (Value.pointer (some ⟨b1, 0, none⟩))] s0) := by
  cases k with
  | zero => exact Rf.none
  | succ n =>
    rw [e38 n]
    rw [p38]
    refine Rf.gen fun H Q hH hQ => ?_
    have C0 : Cx s0.next [b1] [b1] s0 s0 [(b1, AObj.box 3 [(Value.int .i64 p1)])] [] [] := Cx.startB h1 g1
    refine Rf.loop (Inv := Inv38_1 s0 p0 p1 A0 c0 b1 h0 h1 g1 ) (Ex := Ex38_1 s0 p0 p1 A0 c0 b1 h0 h1 g1 ) (x38_1 s0 p0 p1 A0 c0 b1 h0 h1 g1 ) (fun t g s K Q h => b38_1 n s0 p0 p1 A0 c0 b1 h0 h1 g1  t g s K Q h) n _ _ _ ⟨rfl, (C0.sub (List.Sublist.refl _) (List.Sublist.refl _) (List.Sublist.refl _))⟩ ?_
    intro t81 e g s131 h
    obtain ⟨rfl, rfl, C132⟩ := h
    rw [e38_after0_ret n]
    subst hH; subst hQ
    exact Rf.leaf fun _ => Ev.done (Rf.ret C132 ⟨rfl, (C132.obj _ m0).1⟩)
-- 16 "brindlewood/brindlewoodref7.Groups"
abbrev Inv16_2 (s0 : St) (p0 : (List Int)) (p1 : Int) (A0 : Option Addr) (c0 : Nat) (h0 : Sr (rI .u8) s0 A0 c0 p0) (A9 : Option Addr) (c10 : Nat) (e12 : Nat) (i14 : Nat) (x15 : Int) (y11 : (List (List Int))) (t : (Int × (List Int) × Int)) (g : Regs) (s : St) : Prop := ∃ (A64 : Option Addr) (c65 : Nat) (e67 : Nat), g = (rg 39 [(0, (Value.slice A0 (p0).length c0)), (1, (Value.int .i64 p1)), (6, (Value.slice A9 (y11).length c10)), (7, (Value.pointer (some ⟨i14, 0, none⟩))), (8, (Value.int .i64 x15)), (9, (Value.slice A64 (t.2.1).length c65)), (17, (Value.int .i64 p1)), (18, (Value.int .i64 t.2.2))]) ∧ Cx s0.next [] [] s0 s [(i14, AObj.box 3 [(Value.int .i64 t.1)])] [(On.mk (rI .i64) t.2.1 A64 c65 3 false e67), (On.mk (rL (rI .i64)) y11 A9 c10 39 false e12)] []
abbrev Ex16_2 (s0 : St) (p0 : (List Int)) (p1 : Int) (A0 : Option Addr) (c0 : Nat) (h0 : Sr (rI .u8) s0 A0 c0 p0) (A9 : Option Addr) (c10 : Nat) (e12 : Nat) (i14 : Nat) (x15 : Int) (y11 : (List (List Int))) (t : ((Int × (List Int) × Int) ⊕ Unit)) (e : X) (g : Regs) (s : St) : Prop := match t with
  | (.inl t) => ∃ (A132 : Option Addr) (c133 : Nat) (e135 : Nat), e = .exit 2 ∧ g = (rg 39 [(0, (Value.slice A0 (p0).length c0)), (1, (Value.int .i64 p1)), (6, (Value.slice A9 (y11).length c10)), (7, (Value.pointer (some ⟨i14, 0, none⟩))), (8, (Value.int .i64 x15)), (9, (Value.slice A132 (t.2.1).length c133)), (17, (Value.int .i64 p1)), (18, (Value.int .i64 t.2.2)), (19, (Value.bool false))]) ∧ Cx s0.next [] [] s0 s [(i14, AObj.box 3 [(Value.int .i64 t.1)])] [(On.mk (rI .i64) t.2.1 A132 c133 3 false e135), (On.mk (rL (rI .i64)) y11 A9 c10 39 false e12)] []
  | (.inr t) => e = .ret ∧ g = (rg 39 [(4, (Value.slice none 0 0)), (5, (Value.int .i64 x15))]) ∧ Cx s0.next [] [] s0 s [] [] []
theorem x16_2 (s0 : St) (p0 : (List Int)) (p1 : Int) (A0 : Option Addr) (c0 : Nat) (h0 : Sr (rI .u8) s0 A0 c0 p0) (A9 : Option Addr) (c10 : Nat) (e12 : Nat) (i14 : Nat) (x15 : Int) (y11 : (List (List Int))) (t : ((Int × (List Int) × Int) ⊕ Unit)) (e : X) (g : Regs) (s : St) (h : Ex16_2 s0 p0 p1 A0 c0 h0 A9 c10 e12 i14 x15 y11 t e g s) : e ≠ .normal := by
  rcases t with t | t
  · obtain ⟨_, _, _, h, _⟩ := h
    rw [h]; intro hh; cases hh
  · obtain ⟨h, _⟩ := h
    rw [h]; intro hh; cases hh
def pb16_2 (n : Nat) (p0 : (List Int)) (p1 : Int) (t : (Int × (List Int) × Int)) : Option ((Int × (List Int) × Int) ⊕ ((Int × (List Int) × Int) ⊕ Unit)) :=
  (if (decide ((t.2.2 : Int) < p1)) then (((p38 n p0 t.1).bind fun r111 => ((if ((r111.2.1 : Int) != 0) then (((((some (.inr (.inr ()))))))) else ((apP 8 t.2.1 [r111.1] (fun y124 => ((some (.inl (r111.2.2, (t.2.1 ++ [r111.1]), (IntKind.wrap .i64 (t.2.2 + 1))))))))))))) else (((some (.inr (.inl (t.1, t.2.1, t.2.2)))))))
theorem b16_2 (n : Nat) (s0 : St) (p0 : (List Int)) (p1 : Int) (A0 : Option Addr) (c0 : Nat) (h0 : Sr (rI .u8) s0 A0 c0 p0) (A9 : Option Addr) (c10 : Nat) (e12 : Nat) (i14 : Nat) (x15 : Int) (y11 : (List (List Int))) (t : (Int × (List Int) × Int)) (g : Regs) (s108 : St) (K : Kont) (Q : Out → St → Prop) (h : Inv16_2 s0 p0 p1 A0 c0 h0 A9 c10 e12 i14 x15 y11 t g s108) :
    Rf (pb16_2 n p0 p1 t) (fun r => ∀ e g' s', LK (Inv16_2 s0 p0 p1 A0 c0 h0 A9 c10 e12 i14 x15 y11) (Ex16_2 s0 p0 p1 A0 c0 h0 A9 c10 e12 i14 x15 y11) r e g' s' → Ev (K e g' s') Q) (fun _ => Q) (kBody E 16 n [.b, .b, .a, .b, .a, .a, .b, .a, .a, .b, .b, .a, .b, .a, .a] g s108 K) := by
  obtain ⟨x60, y66, x68⟩ := t
  obtain ⟨A64, c65, e67, rfl, C109⟩ := h
  rw [e16_body1 n]
  unfold pb16_2
  refine Rf.gen fun H Q hH hQ => ?_
  try dsimp only
  refine Rf.ite ?_ ?_
  · refine Rf.callB 0 C109 rfl (t38 n p0 x60 s108 (C109.sr0 rfl h0) (C109.obj _ m0).1 (C109.obj _ m0).2.1) ?_
    rintro r111 _ s112 ⟨rfl, h113⟩ h116
    have C117 : Cx s0.next [] [] s0 s112 [(i14, AObj.box 3 [(Value.int .i64 r111.2.2)])] [(On.mk (rI .i64) y66 A64 c65 3 false e67), (On.mk (rL (rI .i64)) y11 A9 c10 39 false e12)] [] := h116 _ h113 [] (by simp) List.Pairwise.nil
    refine (Rf.asTup (Rf.unc (Rf.asI (Rf.unc (Rf.asI (Rf.unn ?_))))))
    refine Rf.ite ?_ ?_
    · subst hH; subst hQ
      exact Rf.leaf fun h => h _ _ _ ⟨rfl, rfl, (C117.sub (List.Sublist.cons _ List.Sublist.slnil) (List.Sublist.cons _ (List.Sublist.cons _ List.Sublist.slnil)) (List.Sublist.refl _))⟩
    · refine Rf.newR (r := (rI .i64)) (xs := [r111.1]) C117 rfl (many.cons (c := [(Value.int .i64 r111.1)]) rI_mk many.nil) fun s118 (C119 : Cx s0.next [] [] s0 s118 [(i14, AObj.box 3 [(Value.int .i64 r111.2.2)])] [(On.mk (rI .i64) [r111.1] (some ⟨s112.next, 0, none⟩) 1 3 false s112.next), (On.mk (rI .i64) y66 A64 c65 3 false e67), (On.mk (rL (rI .i64)) y11 A9 c10 39 false e12)] []) => ?_
      refine Rf.kapp 1 C119 rfl rfl (by decide) (by decide) (Ap.sr u39 rfl (C119.srB m0)) fun A121 c122 e123 s126 (C127 : Cx s0.next [] [] s0 s126 [(i14, AObj.box 3 [(Value.int .i64 r111.2.2)])] [(On.mk (rI .i64) [r111.1] (some ⟨s112.next, 0, none⟩) 1 3 false s112.next), (On.mk (rI .i64) (y66 ++ [r111.1]) A121 c122 3 false e123), (On.mk (rL (rI .i64)) y11 A9 c10 39 false e12)] []) => ?_
      have C128 : Cx s0.next [] [] s0 s126 [(i14, AObj.box 3 [(Value.int .i64 r111.2.2)])] [(On.mk (rI .i64) (y66 ++ [r111.1]) A121 c122 3 false e123), (On.mk (rL (rI .i64)) y11 A9 c10 39 false e12)] [] := C127.sub (List.Sublist.refl _) (List.Sublist.cons _ (List.Sublist.cons_cons _ (List.Sublist.cons_cons _ List.Sublist.slnil))) (List.Sublist.refl _)
      subst hH; subst hQ
      exact Rf.leaf fun h => h _ _ _ ⟨rfl, _, _, _, rfl, (C128.sub (List.Sublist.refl _) (List.Sublist.refl _) (List.Sublist.refl _))⟩
  · subst hH; subst hQ
    exact Rf.leaf fun h => h _ _ _ ⟨_, _, _, rfl, rfl, (C109.sub (List.Sublist.refl _) (List.Sublist.refl _) (List.Sublist.refl _))⟩
abbrev Inv16_1 (s0 : St) (p0 : (List Int)) (p1 : Int) (A0 : Option Addr) (c0 : Nat) (h0 : Sr (rI .u8) s0 A0 c0 p0)  (t : ((List (List Int)) × Int)) (g : Regs) (s : St) : Prop := ∃ (A9 : Option Addr) (c10 : Nat) (e12 : Nat) (i14 : Nat), g = (rg 39 [(0, (Value.slice A0 (p0).length c0)), (1, (Value.int .i64 p1)), (6, (Value.slice A9 (t.1).length c10)), (7, (Value.pointer (some ⟨i14, 0, none⟩)))]) ∧ Cx s0.next [] [] s0 s [(i14, AObj.box 3 [(Value.int .i64 t.2)])] [(On.mk (rL (rI .i64)) t.1 A9 c10 39 false e12)] []
abbrev Ex16_1 (s0 : St) (p0 : (List Int)) (p1 : Int) (A0 : Option Addr) (c0 : Nat) (h0 : Sr (rI .u8) s0 A0 c0 p0)  (t : (((List (List Int)) × Int) ⊕ Int)) (e : X) (g : Regs) (s : St) : Prop := match t with
  | (.inl t) => ∃ (A241 : Option Addr) (c242 : Nat) (e244 : Nat) (i246 : Nat), e = .exit 0 ∧ g = (rg 39 [(0, (Value.slice A0 (p0).length c0)), (1, (Value.int .i64 p1)), (6, (Value.slice A241 (t.1).length c242)), (7, (Value.pointer (some ⟨i246, 0, none⟩))), (15, (Value.bool false))]) ∧ Cx s0.next [] [] s0 s [(i246, AObj.box 3 [(Value.int .i64 t.2)])] [(On.mk (rL (rI .i64)) t.1 A241 c242 39 false e244)] []
  | (.inr t) => e = .ret ∧ g = (rg 39 [(4, (Value.slice none 0 0)), (5, (Value.int .i64 t))]) ∧ Cx s0.next [] [] s0 s [] [] []
theorem x16_1 (s0 : St) (p0 : (List Int)) (p1 : Int) (A0 : Option Addr) (c0 : Nat) (h0 : Sr (rI .u8) s0 A0 c0 p0)  (t : (((List (List Int)) × Int) ⊕ Int)) (e : X) (g : Regs) (s : St) (h : Ex16_1 s0 p0 p1 A0 c0 h0  t e g s) : e ≠ .normal := by
  rcases t with t | t
  · obtain ⟨_, _, _, _, h, _⟩ := h
    rw [h]; intro hh; cases hh
  · obtain ⟨h, _⟩ := h
    rw [h]; intro hh; cases hh
def pb16_1 (n : Nat) (p0 : (List Int)) (p1 : Int) (t : ((List (List Int)) × Int)) : Option (((List (List Int)) × Int) ⊕ (((List (List Int)) × Int) ⊕ Int)) :=
  (if (decide ((t.2 : Int) < ((p0).length : Nat))) then ((((((loopP (pb16_2 n p0 p1) n (t.2, ([] : List Int), 0)).bind fun t239 => match t239 with | (.inl t137) => (apP 24 t.1 [t137.2.1] (fun y185 => ((some (.inl ((t.1 ++ [t137.2.1]), t137.1)))))) | (.inr t197) => ((some (.inr (.inr t.2))))))))) else (((some (.inr (.inl (t.1, t.2)))))))
theorem b16_1 (n : Nat) (s0 : St) (p0 : (List Int)) (p1 : Int) (A0 : Option Addr) (c0 : Nat) (h0 : Sr (rI .u8) s0 A0 c0 p0)  (t : ((List (List Int)) × Int)) (g : Regs) (s55 : St) (K : Kont) (Q : Out → St → Prop) (h : Inv16_1 s0 p0 p1 A0 c0 h0  t g s55) :
    Rf (pb16_1 n p0 p1 t) (fun r => ∀ e g' s', LK (Inv16_1 s0 p0 p1 A0 c0 h0 ) (Ex16_1 s0 p0 p1 A0 c0 h0 ) r e g' s' → Ev (K e g' s') Q) (fun _ => Q) (kBody E 16 n [.b, .b, .a, .b, .a, .a] g s55 K) := by
  obtain ⟨y11, x15⟩ := t
  obtain ⟨A9, c10, e12, i14, rfl, C56⟩ := h
  rw [e16_body0 n]
  unfold pb16_1
  refine Rf.gen fun H Q hH hQ => ?_
  try dsimp only
  refine Rf.ldI (C56.at m0 rfl) ?_
  refine Rf.ite ?_ ?_
  · refine Rf.ldI (C56.at m0 rfl) ?_
    have C61 : Cx s0.next [] [] s0 s55 [(i14, AObj.box 3 [(Value.int .i64 x15)])] [(On.mk (rI .i64) ([] : List Int) none 0 3 false 0), (On.mk (rL (rI .i64)) y11 A9 c10 39 false e12)] [] := C56.addNil (rI .i64) 3
    refine Rf.loop (Inv := Inv16_2 s0 p0 p1 A0 c0 h0 A9 c10 e12 i14 x15 y11) (Ex := Ex16_2 s0 p0 p1 A0 c0 h0 A9 c10 e12 i14 x15 y11) (x16_2 s0 p0 p1 A0 c0 h0 A9 c10 e12 i14 x15 y11) (fun t g s K Q h => b16_2 n s0 p0 p1 A0 c0 h0 A9 c10 e12 i14 x15 y11 t g s K Q h) n _ _ _ ⟨_, _, _, rfl, (C61.sub (List.Sublist.refl _) (List.Sublist.refl _) (List.Sublist.refl _))⟩ ?_
    intro t e g s h
    rcases t with t137 | t197
    · generalize s = s177 at h ⊢
      obtain ⟨A132, c133, e135, rfl, rfl, C178⟩ := h
      rw [e16_after1_exit2 n]
      refine Rf.ifp rfl ?_
      refine Rf.ifp rfl ?_
      refine Rf.newR (r := (rL (rI .i64))) (xs := [t137.2.1]) C178 rfl (many.cons (c := [(Value.slice A132 (t137.2.1).length c133)]) (rL_mk (C178.srB m0)) many.nil) fun s179 (C180 : Cx s0.next [] [] s0 s179 [(i14, AObj.box 3 [(Value.int .i64 t137.1)])] [(On.mk (rL (rI .i64)) [t137.2.1] (some ⟨s177.next, 0, none⟩) 1 39 false s177.next), (On.mk (rI .i64) t137.2.1 A132 c133 3 false e135), (On.mk (rL (rI .i64)) y11 A9 c10 39 false e12)] []) => ?_
      refine Rf.kapp 2 C180 rfl rfl (by decide) (by decide) (Ap.sr u43 rfl (C180.srB m0)) fun A182 c183 e184 s187 (C188 : Cx s0.next [] [] s0 s187 [(i14, AObj.box 3 [(Value.int .i64 t137.1)])] [(On.mk (rL (rI .i64)) [t137.2.1] (some ⟨s177.next, 0, none⟩) 1 39 false s177.next), (On.mk (rI .i64) t137.2.1 A132 c133 3 false e135), (On.mk (rL (rI .i64)) (y11 ++ [t137.2.1]) A182 c183 39 false e184)] []) => ?_
      have C189 : Cx s0.next [] [] s0 s187 [(i14, AObj.box 3 [(Value.int .i64 t137.1)])] [(On.mk (rI .i64) t137.2.1 A132 c133 3 false e135), (On.mk (rL (rI .i64)) (y11 ++ [t137.2.1]) A182 c183 39 false e184)] [] := C188.sub (List.Sublist.refl _) (List.Sublist.cons _ (List.Sublist.cons_cons _ (List.Sublist.cons_cons _ List.Sublist.slnil))) (List.Sublist.refl _)
      refine Rf.ldI (C189.at m0 rfl) ?_
      refine Rf.new C189 fun s192 (C193 : Cx s0.next [] [] s0 s192 [(s187.next, AObj.box 3 [(Value.int .i64 0)]), (i14, AObj.box 3 [(Value.int .i64 t137.1)])] [(On.mk (rI .i64) t137.2.1 A132 c133 3 false e135), (On.mk (rL (rI .i64)) (y11 ++ [t137.2.1]) A182 c183 39 false e184)] []) => ?_
      refine Rf.sto 0 C193 rfl (by simp) rfl fun s195 (C196 : Cx s0.next [] [] s0 s195 [(s187.next, AObj.box 3 [(Value.int .i64 t137.1)]), (i14, AObj.box 3 [(Value.int .i64 t137.1)])] [(On.mk (rI .i64) t137.2.1 A132 c133 3 false e135), (On.mk (rL (rI .i64)) (y11 ++ [t137.2.1]) A182 c183 39 false e184)] []) => ?_
      subst hH; subst hQ
      exact Rf.leaf fun h => h _ _ _ ⟨rfl, _, _, _, _, rfl, (C196.sub (List.Sublist.cons_cons _ (List.Sublist.cons _ List.Sublist.slnil)) (List.Sublist.cons _ (List.Sublist.cons_cons _ List.Sublist.slnil)) (List.Sublist.refl _))⟩
    · generalize s = s237 at h ⊢
      obtain ⟨rfl, rfl, C238⟩ := h
      rw [e16_after1_ret n]
      subst hH; subst hQ
      exact Rf.leaf fun h => h _ _ _ ⟨rfl, rfl, (C238.sub (List.Sublist.refl _) (List.Sublist.refl _) (List.Sublist.refl _))⟩
  · subst hH; subst hQ
    exact Rf.leaf fun h => h _ _ _ ⟨_, _, _, _, rfl, rfl, (C56.sub (List.Sublist.refl _) (List.Sublist.refl _) (List.Sublist.refl _))⟩
abbrev P16 (N : Nat) (X : List Nat) (r : ((List (List Int)) × Int)) (v : Value) (s : St) : Prop := ∃ (A0 : Option Addr) (c0 : Nat) (e0 : Nat), v = (Value.tuple #[(Value.slice A0 (r.1).length c0), (Value.int .i64 r.2)]) ∧ (On.mk (rL (rI .i64)) r.1 A0 c0 39 false e0).holds N X s
def p16 : Nat → (List Int) → Int → Option ((List (List Int)) × Int)
  | 0, _, _ => none
  | n + 1, p0, p1 => ((((loopP (pb16_1 n p0 p1) n (([] : List (List Int)), 0)).bind fun t333 => match t333 with | (.inl t249) => ((some (t249.1, (-1)))) | (.inr t291) => (some (([] : (List (List Int))), t291)))))
theorem t16 (k : Nat) (p0 : (List Int)) (p1 : Int) (s0 : St) {A0 : Option Addr} {c0 : Nat} (h0 : Sr (rI .u8) s0 A0 c0 p0) :
    Rf (p16 k p0 p1) (fun _ => True) (fun r => RtC s0.next [] [] s0 (P16 s0.next [] r)) (acall E k 16 [(Value.slice A0 (p0).length c0), (Value.int .i64 p1)] s0) := by
  cases k with
  | zero => exact Rf.none
  | succ n =>
    rw [e16 n]
    rw [p16]
    refine Rf.gen fun H Q hH hQ => ?_
    have C0 : Cx s0.next [] [] s0 s0 [] [] [] := Cx.start s0
    refine Rf.new C0 fun s1 (C2 : Cx s0.next [] [] s0 s1 [(s0.next, AObj.box 3 [(Value.int .i64 0)])] [] []) => ?_
    refine Rf.sto 0 C2 rfl (by simp) rfl fun s4 (C5 : Cx s0.next [] [] s0 s4 [(s0.next, AObj.box 3 [(Value.int .i64 0)])] [] []) => ?_
    have C6 : Cx s0.next [] [] s0 s4 [(s0.next, AObj.box 3 [(Value.int .i64 0)])] [(On.mk (rL (rI .i64)) ([] : List (List Int)) none 0 39 false 0)] [] := C5.addNil (rL (rI .i64)) 39
    refine Rf.loop (Inv := Inv16_1 s0 p0 p1 A0 c0 h0 ) (Ex := Ex16_1 s0 p0 p1 A0 c0 h0 ) (x16_1 s0 p0 p1 A0 c0 h0 ) (fun t g s K Q h => b16_1 n s0 p0 p1 A0 c0 h0  t g s K Q h) n _ _ _ ⟨_, _, _, _, rfl, (C6.sub (List.Sublist.refl _) (List.Sublist.refl _) (List.Sublist.refl _))⟩ ?_
    intro t e g s h
    rcases t with t249 | t291
    · generalize s = s289 at h ⊢
      obtain ⟨A241, c242, e244, i246, rfl, rfl, C290⟩ := h
      rw [e16_after0_exit0 n]
      subst hH; subst hQ
      exact Rf.leaf fun _ => Ev.done (Rf.ret C290 ⟨_, _, _, rfl, C290.own _ m0⟩)
    · generalize s = s331 at h ⊢
      obtain ⟨rfl, rfl, C332⟩ := h
      rw [e16_after0_ret n]
      subst hH; subst hQ
      exact Rf.leaf fun _ => Ev.done (Rf.ret C332 ⟨none, 0, 0, rfl, .inl ⟨rfl, rfl, rfl⟩⟩)
-- 17 "brindlewood/brindlewoodref7.Opened"
abbrev P17 (N : Nat) (X : List Nat) (r : Int) (v : Value) (s : St) : Prop := v = (Value.int .i64 r)
def p17 : Nat → Int → Option Int
  | 0, _ => none
  | n + 1, p0 => (remP .i64 p0 2 (fun x1 => (if ((x1 : Int) == 1) then (divP .i64 (IntKind.wrap .i64 (0 - (IntKind.wrap .i64 (p0 + 1)))) 2 (fun x2 => ((some x2)))) else ((divP .i64 p0 2 (fun x3 => (some x3)))))))
theorem t17 (k : Nat) (p0 : Int) (s0 : St) :
    Rf (p17 k p0) (fun _ => True) (fun r => RtC s0.next [] [] s0 (P17 s0.next [] r)) (acall E k 17 [(Value.int .i64 p0)] s0) := by
  cases k with
  | zero => exact Rf.none
  | succ n =>
    rw [e17 n]
    rw [p17]
    refine Rf.gen fun H Q hH hQ => ?_
    have C0 : Cx s0.next [] [] s0 s0 [] [] [] := Cx.start s0
    refine Rf.remI fun x1 => ?_
    refine Rf.ite ?_ ?_
    · refine Rf.divI fun x2 => ?_
      subst hH; subst hQ
      exact Rf.leaf fun _ => Ev.done (Rf.ret C0 rfl)
    · refine Rf.divI fun x3 => ?_
      subst hH; subst hQ
      exact Rf.leaf fun _ => Ev.done (Rf.ret C0 rfl)
-- 39 "brindlewood/tables.checkCatches"
abbrev Inv39_1 (s0 : St) (p0 : (List (Int × Int × Int × Int))) (A0 : Option Addr) (c0 : Nat) (h0 : Sr (rP (rI .i64) (rP (rI .i64) (rP (rI .i64) (rI .i64)))) s0 A0 c0 p0) (i15 : Nat) (t : Int) (g : Regs) (s : St) : Prop := g = (rg 55 [(2, (Value.pointer (some ⟨i15, 0, none⟩))), (9, (Value.slice A0 (p0).length c0)), (10, (Value.int .i64 ((p0).length : Nat))), (11, (Value.int .i64 t))]) ∧ Cx s0.next [] [] s0 s [(i15, AObj.box 24 [(Value.int .i64 0), (Value.int .i64 0)])] [] []
abbrev Ex39_1 (s0 : St) (p0 : (List (Int × Int × Int × Int))) (A0 : Option Addr) (c0 : Nat) (h0 : Sr (rP (rI .i64) (rP (rI .i64) (rP (rI .i64) (rI .i64)))) s0 A0 c0 p0) (i15 : Nat) (t : (Int ⊕ (Int × Int))) (e : X) (g : Regs) (s : St) : Prop := match t with
  | (.inl t) => e = .exit 0 ∧ g = (rg 55 [(2, (Value.pointer (some ⟨i15, 0, none⟩))), (9, (Value.slice A0 (p0).length c0)), (10, (Value.int .i64 ((p0).length : Nat))), (11, (Value.int .i64 t)), (12, (Value.bool false))]) ∧ Cx s0.next [] [] s0 s [(i15, AObj.box 24 [(Value.int .i64 0), (Value.int .i64 0)])] [] []
  | (.inr t) => e = .ret ∧ g = (rg 55 [(2, (Value.pointer (some ⟨i15, 0, none⟩)))]) ∧ Cx s0.next [] [] s0 s [(i15, AObj.box 24 [(Value.int .i64 t.1), (Value.int .i64 t.2)])] [] []
theorem x39_1 (s0 : St) (p0 : (List (Int × Int × Int × Int))) (A0 : Option Addr) (c0 : Nat) (h0 : Sr (rP (rI .i64) (rP (rI .i64) (rP (rI .i64) (rI .i64)))) s0 A0 c0 p0) (i15 : Nat) (t : (Int ⊕ (Int × Int))) (e : X) (g : Regs) (s : St) (h : Ex39_1 s0 p0 A0 c0 h0 i15 t e g s) : e ≠ .normal := by
  rcases t with t | t
  · obtain ⟨h, _⟩ := h
    rw [h]; intro hh; cases hh
  · obtain ⟨h, _⟩ := h
    rw [h]; intro hh; cases hh
def pb39_1 (n : Nat) (p0 : (List (Int × Int × Int × Int))) (t : Int) : Option (Int ⊕ (Int ⊕ (Int × Int))) :=
  (if (decide ((t : Int) < ((p0).length : Nat))) then ((rd p0 t (fun x74 => (pj (fun (b130 : Bool) => if b130 then ((p28 n 4 t).bind fun r133 => (((some (.inr (.inr (r133.1, r133.2))))))) else (((some (.inl (IntKind.wrap .i64 (t + 1))))))) (fun J129 => if (decide ((x74.1 : Int) < 0)) then ((J129 true)) else (if (decide ((x74.1 : Int) ≥ x74.2.1)) then ((J129 true)) else (if (decide ((x74.2.1 : Int) > 60000)) then ((J129 true)) else (if (decide ((x74.2.2.1 : Int) < 0)) then ((J129 true)) else (if (decide ((x74.2.2.1 : Int) ≥ 60000)) then ((J129 true)) else (if (decide ((x74.2.2.2 : Int) < 0)) then ((J129 true)) else ((J129 (decide ((x74.2.2.2 : Int) > 5000)))))))))))))) else (((some (.inr (.inl t))))))
theorem b39_1 (n : Nat) (s0 : St) (p0 : (List (Int × Int × Int × Int))) (A0 : Option Addr) (c0 : Nat) (h0 : Sr (rP (rI .i64) (rP (rI .i64) (rP (rI .i64) (rI .i64)))) s0 A0 c0 p0) (i15 : Nat) (x14 : Int) (g : Regs) (s71 : St) (K : Kont) (Q : Out → St → Prop) (h : Inv39_1 s0 p0 A0 c0 h0 i15 x14 g s71) :
    Rf (pb39_1 n p0 x14) (fun r => ∀ e g' s', LK (Inv39_1 s0 p0 A0 c0 h0 i15) (Ex39_1 s0 p0 A0 c0 h0 i15) r e g' s' → Ev (K e g' s') Q) (fun _ => Q) (kBody E 39 n [.b, .b, .a, .b, .a, .a] g s71 K) := by
  obtain ⟨rfl, C72⟩ := h
  rw [e39_body0 n]
  unfold pb39_1
  refine Rf.gen fun H Q hH hQ => ?_
  refine Rf.ite ?_ ?_
  · refine Rf.elt (r := (rP (rI .i64) (rP (rI .i64) (rP (rI .i64) (rI .i64))))) (C72.sr0 rfl h0) rfl fun x74 i75 o76 c77 r78 h79 => ?_
    obtain ⟨c84, c85, rfl, r86, r87⟩ := rP_elim r78
    obtain rfl := rI_elim r86
    obtain ⟨c88, c89, rfl, r90, r91⟩ := rP_elim r87
    obtain rfl := rI_elim r90
    obtain ⟨c92, c93, rfl, r94, r95⟩ := rP_elim r91
    obtain rfl := rI_elim r94
    obtain rfl := rI_elim r95
    refine Rf.ldI (h79.at 0 rfl) ?_
    refine Rf.ldI (h79.at 1 rfl) ?_
    refine Rf.ldI (h79.at 2 rfl) ?_
    refine Rf.ldI (h79.at 3 rfl) ?_
    refine Rf.new C72 fun s100 (C101 : Cx s0.next [] [] s0 s100 [(s71.next, AObj.box 51 [(Value.int .i64 0), (Value.int .i64 0), (Value.int .i64 0), (Value.int .i64 0)]), (i15, AObj.box 24 [(Value.int .i64 0), (Value.int .i64 0)])] [] []) => ?_
    refine Rf.sto 0 C101 rfl (by simp) rfl fun s103 (C104 : Cx s0.next [] [] s0 s103 [(s71.next, AObj.box 51 [(Value.int .i64 x74.1), (Value.int .i64 x74.2.1), (Value.int .i64 x74.2.2.1), (Value.int .i64 x74.2.2.2)]), (i15, AObj.box 24 [(Value.int .i64 0), (Value.int .i64 0)])] [] []) => ?_
    refine Rf.pj fun J129 J129' hJ129 hJ129' => ?_
    have J129h : ∀ (b130 : Bool) (_ : Cx s0.next [] [] s0 s103 [(i15, AObj.box 24 [(Value.int .i64 0), (Value.int .i64 0)])] [] []), Rf (J129 b130) H Q (J129' b130) := by
      subst hJ129
      subst hJ129'
      intro b130 C132
      refine Rf.ite ?_ ?_
      · refine Rf.call0 C132 (t28 n 4 x14 s103) ?_
        rintro r133 _ s134 rfl h137
        have C138 : Cx s0.next [] [] s0 s134 [(i15, AObj.box 24 [(Value.int .i64 0), (Value.int .i64 0)])] [] [] := h137 [] (by simp) List.Pairwise.nil
        refine (Rf.asAgg (Rf.unc (Rf.asI (Rf.unc (Rf.asI (Rf.unn ?_))))))
        refine Rf.sto 0 C138 rfl (by simp) rfl fun s139 (C140 : Cx s0.next [] [] s0 s139 [(i15, AObj.box 24 [(Value.int .i64 r133.1), (Value.int .i64 r133.2)])] [] []) => ?_
        subst hH; subst hQ
        exact Rf.leaf fun h => h _ _ _ ⟨rfl, rfl, (C140.sub (List.Sublist.refl _) (List.Sublist.refl _) (List.Sublist.refl _))⟩
      · subst hH; subst hQ
        exact Rf.leaf fun h => h _ _ _ ⟨rfl, rfl, (C132.sub (List.Sublist.refl _) (List.Sublist.refl _) (List.Sublist.refl _))⟩
    clear hJ129 hJ129'
    refine Rf.ldI (C104.at m0 rfl) ?_
    refine Rf.ite ?_ ?_
    · exact J129h true (C104.sub (List.Sublist.cons _ (List.Sublist.cons_cons _ List.Sublist.slnil)) (List.Sublist.refl _) (List.Sublist.refl _))
    · refine Rf.ldI (C104.at m0 rfl) ?_
      refine Rf.ldI (C104.at m0 rfl) ?_
      refine Rf.ite ?_ ?_
      · exact J129h true (C104.sub (List.Sublist.cons _ (List.Sublist.cons_cons _ List.Sublist.slnil)) (List.Sublist.refl _) (List.Sublist.refl _))
      · refine Rf.ldI (C104.at m0 rfl) ?_
        refine Rf.ite ?_ ?_
        · exact J129h true (C104.sub (List.Sublist.cons _ (List.Sublist.cons_cons _ List.Sublist.slnil)) (List.Sublist.refl _) (List.Sublist.refl _))
        · refine Rf.ldI (C104.at m0 rfl) ?_
          refine Rf.ite ?_ ?_
          · exact J129h true (C104.sub (List.Sublist.cons _ (List.Sublist.cons_cons _ List.Sublist.slnil)) (List.Sublist.refl _) (List.Sublist.refl _))
          · refine Rf.ldI (C104.at m0 rfl) ?_
            refine Rf.ite ?_ ?_
            · exact J129h true (C104.sub (List.Sublist.cons _ (List.Sublist.cons_cons _ List.Sublist.slnil)) (List.Sublist.refl _) (List.Sublist.refl _))
            · refine Rf.ldI (C104.at m0 rfl) ?_
              refine Rf.ite ?_ ?_
              · exact J129h true (C104.sub (List.Sublist.cons _ (List.Sublist.cons_cons _ List.Sublist.slnil)) (List.Sublist.refl _) (List.Sublist.refl _))
              · refine Rf.ldI (C104.at m0 rfl) ?_
                exact J129h (decide ((x74.2.2.2 : Int) > 5000)) (C104.sub (List.Sublist.cons _ (List.Sublist.cons_cons _ List.Sublist.slnil)) (List.Sublist.refl _) (List.Sublist.refl _))
  · subst hH; subst hQ
    exact Rf.leaf fun h => h _ _ _ ⟨rfl, rfl, (C72.sub (List.Sublist.refl _) (List.Sublist.refl _) (List.Sublist.refl _))⟩
abbrev P39 (N : Nat) (X : List Nat) (r : (Int × Int)) (v : Value) (s : St) : Prop := v = (Value.agg #[(Value.int .i64 r.1), (Value.int .i64 r.2)])
def p39 : Nat → (List (Int × Int × Int × Int)) → Option (Int × Int)
  | 0, _ => none
  | n + 1, p0 => ((if (decide ((((p0).length : Nat) : Int) > 60000)) then ((p28 n 2 (-1)).bind fun r4 => ((some (r4.1, r4.2)))) else ((((loopP (pb39_1 n p0) n 0).bind fun t266 => match t266 with | (.inl t144) => ((some (0, 0))) | (.inr t206) => (some (t206.1, t206.2)))))))
theorem t39 (k : Nat) (p0 : (List (Int × Int × Int × Int))) (s0 : St) {A0 : Option Addr} {c0 : Nat} (h0 : Sr (rP (rI .i64) (rP (rI .i64) (rP (rI .i64) (rI .i64)))) s0 A0 c0 p0) :
    Rf (p39 k p0) (fun _ => True) (fun r => RtC s0.next [] [] s0 (P39 s0.next [] r)) (acall E k 39 [(Value.slice A0 (p0).length c0)] s0) := by
  cases k with
  | zero => exact Rf.none
  | succ n =>
    rw [e39 n]
    rw [p39]
    refine Rf.gen fun H Q hH hQ => ?_
    have C0 : Cx s0.next [] [] s0 s0 [] [] [] := Cx.start s0
    refine Rf.new C0 fun s1 (C2 : Cx s0.next [] [] s0 s1 [(s0.next, AObj.box 24 [(Value.int .i64 0), (Value.int .i64 0)])] [] []) => ?_
    refine Rf.ite ?_ ?_
    · refine Rf.call0 C2 (t28 n 2 (-1) s1) ?_
      rintro r4 _ s5 rfl h8
      have C9 : Cx s0.next [] [] s0 s5 [(s0.next, AObj.box 24 [(Value.int .i64 0), (Value.int .i64 0)])] [] [] := h8 [] (by simp) List.Pairwise.nil
      refine (Rf.asAgg (Rf.unc (Rf.asI (Rf.unc (Rf.asI (Rf.unn ?_))))))
      refine Rf.sto 0 C9 rfl (by simp) rfl fun s10 (C11 : Cx s0.next [] [] s0 s10 [(s0.next, AObj.box 24 [(Value.int .i64 r4.1), (Value.int .i64 r4.2)])] [] []) => ?_
      refine Rf.ldI (C11.at m0 rfl) ?_
      refine Rf.ldI (C11.at m0 rfl) ?_
      subst hH; subst hQ
      exact Rf.leaf fun _ => Ev.done (Rf.ret C11 rfl)
    · refine Rf.loop (Inv := Inv39_1 s0 p0 A0 c0 h0 s0.next) (Ex := Ex39_1 s0 p0 A0 c0 h0 s0.next) (x39_1 s0 p0 A0 c0 h0 s0.next) (fun t g s K Q h => b39_1 n s0 p0 A0 c0 h0 s0.next t g s K Q h) n _ _ _ ⟨rfl, (C2.sub (List.Sublist.refl _) (List.Sublist.refl _) (List.Sublist.refl _))⟩ ?_
      intro t e g s h
      rcases t with t144 | t206
      · generalize s = s200 at h ⊢
        obtain ⟨rfl, rfl, C201⟩ := h
        rw [e39_after0_exit0 n]
        refine Rf.sto 0 C201 rfl (by simp) rfl fun s202 (C203 : Cx s0.next [] [] s0 s202 [(s0.next, AObj.box 24 [(Value.int .i64 0), (Value.int .i64 0)])] [] []) => ?_
        refine Rf.ldI (C203.at m0 rfl) ?_
        refine Rf.ldI (C203.at m0 rfl) ?_
        subst hH; subst hQ
        exact Rf.leaf fun _ => Ev.done (Rf.ret C203 rfl)
      · generalize s = s262 at h ⊢
        obtain ⟨rfl, rfl, C263⟩ := h
        rw [e39_after0_ret n]
        refine Rf.ldI (C263.at m0 rfl) ?_
        refine Rf.ldI (C263.at m0 rfl) ?_
        subst hH; subst hQ
        exact Rf.leaf fun _ => Ev.done (Rf.ret C263 rfl)
-- 18 "brindlewood/tables.UnpackCatches"
abbrev Inv18_2 (s0 : St) (p0 : (List Int)) (A0 : Option Addr) (c0 : Nat) (h0 : Sr (rI .u8) s0 A0 c0 p0) (A17 : Option Addr) (c18 : Nat) (e20 : Nat) (i22 : Nat) (i23 : Nat) (x13 : Int) (x21 : Int) (y19 : (List (Int × Int × Int × Int))) (i119 : Nat) (t : ((List Int) × Int × (List Int) × Int)) (g : Regs) (s : St) : Prop := ∃ (A113 : Option Addr) (c114 : Nat), g = (rg 76 [(0, (Value.slice A0 (p0).length c0)), (3, (Value.pointer (some ⟨i23, 0, none⟩))), (4, (Value.pointer (some ⟨i22, 0, none⟩))), (5, (Value.slice A17 (y19).length c18)), (6, (Value.int .i64 x21)), (7, (Value.int .i64 x13)), (8, (Value.pointer (some ⟨i119, 0, none⟩))), (28, (Value.int .i64 t.2.2.2))]) ∧ Cx s0.next [] [] s0 s [(i119, AObj.box 76 (List.map (Value.int .i64) t.2.2.1)), (i22, AObj.box 71 [(Value.slice A113 (t.1).length c114), (Value.int .i64 t.2.1)]), (i23, AObj.box 24 [(Value.int .i64 0), (Value.int .i64 0)])] [(On.mk (rP (rI .i64) (rP (rI .i64) (rP (rI .i64) (rI .i64)))) y19 A17 c18 51 false e20)] [(Fa.sr (rI .u8) A113 c114 t.1)]
abbrev Ex18_2 (s0 : St) (p0 : (List Int)) (A0 : Option Addr) (c0 : Nat) (h0 : Sr (rI .u8) s0 A0 c0 p0) (A17 : Option Addr) (c18 : Nat) (e20 : Nat) (i22 : Nat) (i23 : Nat) (x13 : Int) (x21 : Int) (y19 : (List (Int × Int × Int × Int))) (i119 : Nat) (t : (((List Int) × Int × (List Int) × Int) ⊕ (Int × Int))) (e : X) (g : Regs) (s : St) : Prop := match t with
  | (.inl t) => ∃ (A227 : Option Addr) (c228 : Nat), e = .exit 2 ∧ g = (rg 76 [(0, (Value.slice A0 (p0).length c0)), (3, (Value.pointer (some ⟨i23, 0, none⟩))), (4, (Value.pointer (some ⟨i22, 0, none⟩))), (5, (Value.slice A17 (y19).length c18)), (6, (Value.int .i64 x21)), (7, (Value.int .i64 x13)), (8, (Value.pointer (some ⟨i119, 0, none⟩))), (28, (Value.int .i64 t.2.2.2)), (29, (Value.bool false))]) ∧ Cx s0.next [] [] s0 s [(i119, AObj.box 76 (List.map (Value.int .i64) t.2.2.1)), (i22, AObj.box 71 [(Value.slice A227 (t.1).length c228), (Value.int .i64 t.2.1)]), (i23, AObj.box 24 [(Value.int .i64 0), (Value.int .i64 0)])] [(On.mk (rP (rI .i64) (rP (rI .i64) (rP (rI .i64) (rI .i64)))) y19 A17 c18 51 false e20)] [(Fa.sr (rI .u8) A227 c228 t.1)]
  | (.inr t) => e = .ret ∧ g = (rg 76 [(2, (Value.slice none 0 0)), (3, (Value.pointer (some ⟨i23, 0, none⟩)))]) ∧ Cx s0.next [] [] s0 s [(i23, AObj.box 24 [(Value.int .i64 t.1), (Value.int .i64 t.2)])] [] []
theorem x18_2 (s0 : St) (p0 : (List Int)) (A0 : Option Addr) (c0 : Nat) (h0 : Sr (rI .u8) s0 A0 c0 p0) (A17 : Option Addr) (c18 : Nat) (e20 : Nat) (i22 : Nat) (i23 : Nat) (x13 : Int) (x21 : Int) (y19 : (List (Int × Int × Int × Int))) (i119 : Nat) (t : (((List Int) × Int × (List Int) × Int) ⊕ (Int × Int))) (e : X) (g : Regs) (s : St) (h : Ex18_2 s0 p0 A0 c0 h0 A17 c18 e20 i22 i23 x13 x21 y19 i119 t e g s) : e ≠ .normal := by
  rcases t with t | t
  · obtain ⟨_, _, h, _⟩ := h
    rw [h]; intro hh; cases hh
  · obtain ⟨h, _⟩ := h
    rw [h]; intro hh; cases hh
def pb18_2 (n : Nat)  (x13 : Int) (t : ((List Int) × Int × (List Int) × Int)) : Option (((List Int) × Int × (List Int) × Int) ⊕ (((List Int) × Int × (List Int) × Int) ⊕ (Int × Int))) :=
  (if (decide ((t.2.2.2 : Int) < 4)) then ((((p36 n (t.1, t.2.1)).bind fun r199 => ((if (!r199.2.1) then ((p28 n 16 x13).bind fun r211 => ((((some (.inr (.inr (r211.1, r211.2)))))))) else ((inb 4 t.2.2.2 (stP t.2.2.1 t.2.2.2 r199.1 (fun l225 => ((some (.inl (r199.2.2.1, r199.2.2.2, l225, (IntKind.wrap .i64 (t.2.2.2 + 1))))))))))))))) else (((some (.inr (.inl (t.1, t.2.1, t.2.2.1, t.2.2.2)))))))
theorem b18_2 (n : Nat) (s0 : St) (p0 : (List Int)) (A0 : Option Addr) (c0 : Nat) (h0 : Sr (rI .u8) s0 A0 c0 p0) (A17 : Option Addr) (c18 : Nat) (e20 : Nat) (i22 : Nat) (i23 : Nat) (x13 : Int) (x21 : Int) (y19 : (List (Int × Int × Int × Int))) (i119 : Nat) (t : ((List Int) × Int × (List Int) × Int)) (g : Regs) (s196 : St) (K : Kont) (Q : Out → St → Prop) (h : Inv18_2 s0 p0 A0 c0 h0 A17 c18 e20 i22 i23 x13 x21 y19 i119 t g s196) :
    Rf (pb18_2 n x13 t) (fun r => ∀ e g' s', LK (Inv18_2 s0 p0 A0 c0 h0 A17 c18 e20 i22 i23 x13 x21 y19 i119) (Ex18_2 s0 p0 A0 c0 h0 A17 c18 e20 i22 i23 x13 x21 y19 i119) r e g' s' → Ev (K e g' s') Q) (fun _ => Q) (kBody E 18 n [.b, .b, .b, .b, .a, .a, .a, .b, .a, .b, .b, .a, .b, .a, .a] g s196 K) := by
  obtain ⟨y115, x116, l117, x118⟩ := t
  obtain ⟨A113, c114, rfl, C197⟩ := h
  rw [e18_body1 n]
  unfold pb18_2
  refine Rf.gen fun H Q hH hQ => ?_
  try dsimp only
  refine Rf.ite ?_ ?_
  · refine Rf.callB 1 C197 rfl (t36 n (y115, x116) s196 (C197.obj _ m1).1 (C197.obj _ m1).2.1 (C197.srG m0)) ?_
    rintro r199 _ s200 ⟨A201, c202, rfl, h203, h205⟩ h208
    have C209 : Cx s0.next [] [] s0 s200 [(i119, AObj.box 76 (List.map (Value.int .i64) l117)), (i22, AObj.box 71 [(Value.slice A201 (r199.2.2.1).length c202), (Value.int .i64 r199.2.2.2)]), (i23, AObj.box 24 [(Value.int .i64 0), (Value.int .i64 0)])] [(On.mk (rP (rI .i64) (rP (rI .i64) (rP (rI .i64) (rI .i64)))) y19 A17 c18 51 false e20)] [(Fa.sr (rI .u8) A113 c114 y115)] := h208 _ h205 [] (by simp) List.Pairwise.nil
    have C210 := C209.add (Fa.sr (rI .u8) A201 c202 r199.2.2.1) h203
    refine (Rf.asTup (Rf.unc (Rf.asI (Rf.unc (Rf.asB (Rf.unn ?_))))))
    refine Rf.ite ?_ ?_
    · refine Rf.call0 C210 (t28 n 16 x13 s200) ?_
      rintro r211 _ s212 rfl h215
      have C216 : Cx s0.next [] [] s0 s212 [(i119, AObj.box 76 (List.map (Value.int .i64) l117)), (i22, AObj.box 71 [(Value.slice A201 (r199.2.2.1).length c202), (Value.int .i64 r199.2.2.2)]), (i23, AObj.box 24 [(Value.int .i64 0), (Value.int .i64 0)])] [(On.mk (rP (rI .i64) (rP (rI .i64) (rP (rI .i64) (rI .i64)))) y19 A17 c18 51 false e20)] [(Fa.sr (rI .u8) A201 c202 r199.2.2.1), (Fa.sr (rI .u8) A113 c114 y115)] := h215 [] (by simp) List.Pairwise.nil
      refine (Rf.asAgg (Rf.unc (Rf.asI (Rf.unc (Rf.asI (Rf.unn ?_))))))
      refine Rf.sto 2 C216 rfl (by simp) rfl fun s217 (C218 : Cx s0.next [] [] s0 s217 [(i119, AObj.box 76 (List.map (Value.int .i64) l117)), (i22, AObj.box 71 [(Value.slice A201 (r199.2.2.1).length c202), (Value.int .i64 r199.2.2.2)]), (i23, AObj.box 24 [(Value.int .i64 r211.1), (Value.int .i64 r211.2)])] [(On.mk (rP (rI .i64) (rP (rI .i64) (rP (rI .i64) (rI .i64)))) y19 A17 c18 51 false e20)] [(Fa.sr (rI .u8) A201 c202 r199.2.2.1), (Fa.sr (rI .u8) A113 c114 y115)]) => ?_
      subst hH; subst hQ
      exact Rf.leaf fun h => h _ _ _ ⟨rfl, rfl, (C218.sub (List.Sublist.cons _ (List.Sublist.cons _ (List.Sublist.cons_cons _ List.Sublist.slnil))) (List.Sublist.cons _ List.Sublist.slnil) (List.Sublist.cons _ (List.Sublist.cons _ List.Sublist.slnil)))⟩
    · refine Rf.aelt fun h221 h222 => ?_
      refine Rf.stoArr 0 C210 rfl fun l225 s223 (C224 : Cx s0.next [] [] s0 s223 [(i119, AObj.box 76 (List.map (Value.int .i64) l225)), (i22, AObj.box 71 [(Value.slice A201 (r199.2.2.1).length c202), (Value.int .i64 r199.2.2.2)]), (i23, AObj.box 24 [(Value.int .i64 0), (Value.int .i64 0)])] [(On.mk (rP (rI .i64) (rP (rI .i64) (rP (rI .i64) (rI .i64)))) y19 A17 c18 51 false e20)] [(Fa.sr (rI .u8) A201 c202 r199.2.2.1), (Fa.sr (rI .u8) A113 c114 y115)]) => ?_
      subst hH; subst hQ
      exact Rf.leaf fun h => h _ _ _ ⟨rfl, _, _, rfl, (C224.sub (List.Sublist.refl _) (List.Sublist.refl _) (List.Sublist.cons_cons _ (List.Sublist.cons _ List.Sublist.slnil)))⟩
  · subst hH; subst hQ
    exact Rf.leaf fun h => h _ _ _ ⟨_, _, rfl, rfl, (C197.sub (List.Sublist.refl _) (List.Sublist.refl _) (List.Sublist.refl _))⟩
abbrev Inv18_1 (s0 : St) (p0 : (List Int)) (A0 : Option Addr) (c0 : Nat) (h0 : Sr (rI .u8) s0 A0 c0 p0) (i22 : Nat) (i23 : Nat) (t : ((List Int) × Int × (List (Int × Int × Int × Int)) × Int)) (g : Regs) (s : St) : Prop := ∃ (A8 : Option Addr) (c9 : Nat) (A17 : Option Addr) (c18 : Nat) (e20 : Nat), g = (rg 76 [(0, (Value.slice A0 (p0).length c0)), (3, (Value.pointer (some ⟨i23, 0, none⟩))), (4, (Value.pointer (some ⟨i22, 0, none⟩))), (5, (Value.slice A17 (t.2.2.1).length c18)), (6, (Value.int .i64 t.2.2.2))]) ∧ Cx s0.next [] [] s0 s [(i22, AObj.box 71 [(Value.slice A8 (t.1).length c9), (Value.int .i64 t.2.1)]), (i23, AObj.box 24 [(Value.int .i64 0), (Value.int .i64 0)])] [(On.mk (rP (rI .i64) (rP (rI .i64) (rP (rI .i64) (rI .i64)))) t.2.2.1 A17 c18 51 false e20)] [(Fa.sr (rI .u8) A8 c9 t.1)]
abbrev Ex18_1 (s0 : St) (p0 : (List Int)) (A0 : Option Addr) (c0 : Nat) (h0 : Sr (rI .u8) s0 A0 c0 p0) (i22 : Nat) (i23 : Nat) (t : (((List Int) × Int × (List (Int × Int × Int × Int)) × Int) ⊕ (Int × Int))) (e : X) (g : Regs) (s : St) : Prop := match t with
  | (.inl t) => ∃ (A442 : Option Addr) (c443 : Nat) (A447 : Option Addr) (c448 : Nat) (e450 : Nat), e = .exit 0 ∧ g = (rg 76 [(0, (Value.slice A0 (p0).length c0)), (3, (Value.pointer (some ⟨i23, 0, none⟩))), (4, (Value.pointer (some ⟨i22, 0, none⟩))), (5, (Value.slice A447 (t.2.2.1).length c448)), (6, (Value.int .i64 t.2.2.2)), (23, (Value.bool false))]) ∧ Cx s0.next [] [] s0 s [(i22, AObj.box 71 [(Value.slice A442 (t.1).length c443), (Value.int .i64 t.2.1)]), (i23, AObj.box 24 [(Value.int .i64 0), (Value.int .i64 0)])] [(On.mk (rP (rI .i64) (rP (rI .i64) (rP (rI .i64) (rI .i64)))) t.2.2.1 A447 c448 51 false e450)] [(Fa.sr (rI .u8) A442 c443 t.1)]
  | (.inr t) => e = .ret ∧ g = (rg 76 [(2, (Value.slice none 0 0)), (3, (Value.pointer (some ⟨i23, 0, none⟩)))]) ∧ Cx s0.next [] [] s0 s [(i23, AObj.box 24 [(Value.int .i64 t.1), (Value.int .i64 t.2)])] [] []
theorem x18_1 (s0 : St) (p0 : (List Int)) (A0 : Option Addr) (c0 : Nat) (h0 : Sr (rI .u8) s0 A0 c0 p0) (i22 : Nat) (i23 : Nat) (t : (((List Int) × Int × (List (Int × Int × Int × Int)) × Int) ⊕ (Int × Int))) (e : X) (g : Regs) (s : St) (h : Ex18_1 s0 p0 A0 c0 h0 i22 i23 t e g s) : e ≠ .normal := by
  rcases t with t | t
  · obtain ⟨_, _, _, _, _, h, _⟩ := h
    rw [h]; intro hh; cases hh
  · obtain ⟨h, _⟩ := h
    rw [h]; intro hh; cases hh
def pb18_1 (n : Nat) (p0 : (List Int)) (t : ((List Int) × Int × (List (Int × Int × Int × Int)) × Int)) : Option (((List Int) × Int × (List (Int × Int × Int × Int)) × Int) ⊕ (((List Int) × Int × (List (Int × Int × Int × Int)) × Int) ⊕ (Int × Int))) :=
  (if (decide ((t.2.1 : Int) < ((p0).length : Nat))) then ((((((loopP (pb18_2 n t.2.1) n (t.1, t.2.1, [0, 0, 0, 0], 0)).bind fun t440 => match t440 with | (.inl t235) => (inb 4 0 (rd t235.2.2.1 0 (fun x318 => (p37 n x318).bind fun r320 => (inb 4 1 (rd t235.2.2.1 1 (fun x329 => (inb 4 2 (rd t235.2.2.1 2 (fun x335 => (p37 n x335).bind fun r337 => inb 4 3 (rd t235.2.2.1 3 (fun x345 => apP 32 t.2.2.1 [((IntKind.wrap .i64 (t.2.2.2 + r320)), (IntKind.wrap .i64 ((IntKind.wrap .i64 (t.2.2.2 + r320)) + x329)), (IntKind.wrap .i64 ((IntKind.wrap .i64 ((IntKind.wrap .i64 (t.2.2.2 + r320)) + x329)) + r337)), x345)] (fun y353 => (some (.inl (t235.1, t235.2.1, (t.2.2.1 ++ [((IntKind.wrap .i64 (t.2.2.2 + r320)), (IntKind.wrap .i64 ((IntKind.wrap .i64 (t.2.2.2 + r320)) + x329)), (IntKind.wrap .i64 ((IntKind.wrap .i64 ((IntKind.wrap .i64 (t.2.2.2 + r320)) + x329)) + r337)), x345)]), (IntKind.wrap .i64 (t.2.2.2 + r320))))))))))))))))) | (.inr t361) => ((some (.inr (.inr (t361.1, t361.2)))))))))) else (((some (.inr (.inl (t.1, t.2.1, t.2.2.1, t.2.2.2)))))))
theorem b18_1 (n : Nat) (s0 : St) (p0 : (List Int)) (A0 : Option Addr) (c0 : Nat) (h0 : Sr (rI .u8) s0 A0 c0 p0) (i22 : Nat) (i23 : Nat) (t : ((List Int) × Int × (List (Int × Int × Int × Int)) × Int)) (g : Regs) (s100 : St) (K : Kont) (Q : Out → St → Prop) (h : Inv18_1 s0 p0 A0 c0 h0 i22 i23 t g s100) :
    Rf (pb18_1 n p0 t) (fun r => ∀ e g' s', LK (Inv18_1 s0 p0 A0 c0 h0 i22 i23) (Ex18_1 s0 p0 A0 c0 h0 i22 i23) r e g' s' → Ev (K e g' s') Q) (fun _ => Q) (kBody E 18 n [.b, .b, .b, .b, .a, .a, .a] g s100 K) := by
  obtain ⟨y10, x13, y19, x21⟩ := t
  obtain ⟨A8, c9, A17, c18, e20, rfl, C101⟩ := h
  rw [e18_body0 n]
  unfold pb18_1
  refine Rf.gen fun H Q hH hQ => ?_
  try dsimp only
  refine Rf.ldI (C101.at m0 rfl) ?_
  refine Rf.ite ?_ ?_
  · refine Rf.ldI (C101.at m0 rfl) ?_
    refine Rf.new C101 fun s109 (C110 : Cx s0.next [] [] s0 s109 [(s100.next, AObj.box 76 (List.map (Value.int .i64) [0, 0, 0, 0])), (i22, AObj.box 71 [(Value.slice A8 (y10).length c9), (Value.int .i64 x13)]), (i23, AObj.box 24 [(Value.int .i64 0), (Value.int .i64 0)])] [(On.mk (rP (rI .i64) (rP (rI .i64) (rP (rI .i64) (rI .i64)))) y19 A17 c18 51 false e20)] [(Fa.sr (rI .u8) A8 c9 y10)]) => ?_
    refine Rf.loop (Inv := Inv18_2 s0 p0 A0 c0 h0 A17 c18 e20 i22 i23 x13 x21 y19 s100.next) (Ex := Ex18_2 s0 p0 A0 c0 h0 A17 c18 e20 i22 i23 x13 x21 y19 s100.next) (x18_2 s0 p0 A0 c0 h0 A17 c18 e20 i22 i23 x13 x21 y19 s100.next) (fun t g s K Q h => b18_2 n s0 p0 A0 c0 h0 A17 c18 e20 i22 i23 x13 x21 y19 s100.next t g s K Q h) n _ _ _ ⟨_, _, rfl, (C110.sub (List.Sublist.refl _) (List.Sublist.refl _) (List.Sublist.refl _))⟩ ?_
    intro t e g s h
    rcases t with t235 | t361
    · generalize s = s312 at h ⊢
      obtain ⟨A227, c228, rfl, rfl, C313⟩ := h
      rw [e18_after1_exit2 n]
      refine Rf.aelt fun h316 h317 => ?_
      refine Rf.arr fun x318 x318_h => ?_
      refine Rf.ldI (Cx.atArr C313 m0 x318_h) ?_
      refine Rf.call0 C313 (t37 n x318 s312) ?_
      rintro r320 _ s321 rfl h323
      have C324 : Cx s0.next [] [] s0 s321 [(s100.next, AObj.box 76 (List.map (Value.int .i64) t235.2.2.1)), (i22, AObj.box 71 [(Value.slice A227 (t235.1).length c228), (Value.int .i64 t235.2.1)]), (i23, AObj.box 24 [(Value.int .i64 0), (Value.int .i64 0)])] [(On.mk (rP (rI .i64) (rP (rI .i64) (rP (rI .i64) (rI .i64)))) y19 A17 c18 51 false e20)] [(Fa.sr (rI .u8) A227 c228 t235.1)] := h323 [] (by simp) List.Pairwise.nil
      refine (Rf.asI ?_)
      refine Rf.aelt fun h327 h328 => ?_
      refine Rf.arr fun x329 x329_h => ?_
      refine Rf.ldI (Cx.atArr C324 m0 x329_h) ?_
      refine Rf.aelt fun h333 h334 => ?_
      refine Rf.arr fun x335 x335_h => ?_
      refine Rf.ldI (Cx.atArr C324 m0 x335_h) ?_
      refine Rf.callZ (t37 n x335 St.bare) ?_
      rintro r337 _ s338 rfl
      refine (Rf.asI ?_)
      refine Rf.aelt fun h343 h344 => ?_
      refine Rf.arr fun x345 x345_h => ?_
      refine Rf.ldI (Cx.atArr C324 m0 x345_h) ?_
      refine Rf.newR (r := (rP (rI .i64) (rP (rI .i64) (rP (rI .i64) (rI .i64))))) (xs := [((IntKind.wrap .i64 (x21 + r320)), (IntKind.wrap .i64 ((IntKind.wrap .i64 (x21 + r320)) + x329)), (IntKind.wrap .i64 ((IntKind.wrap .i64 ((IntKind.wrap .i64 (x21 + r320)) + x329)) + r337)), x345)]) C324 rfl (many.cons (c := [(Value.int .i64 (IntKind.wrap .i64 (x21 + r320))), (Value.int .i64 (IntKind.wrap .i64 ((IntKind.wrap .i64 (x21 + r320)) + x329))), (Value.int .i64 (IntKind.wrap .i64 ((IntKind.wrap .i64 ((IntKind.wrap .i64 (x21 + r320)) + x329)) + r337))), (Value.int .i64 x345)]) (rP_mk rI_mk (rP_mk rI_mk (rP_mk rI_mk rI_mk))) many.nil) fun s347 (C348 : Cx s0.next [] [] s0 s347 [(s100.next, AObj.box 76 (List.map (Value.int .i64) t235.2.2.1)), (i22, AObj.box 71 [(Value.slice A227 (t235.1).length c228), (Value.int .i64 t235.2.1)]), (i23, AObj.box 24 [(Value.int .i64 0), (Value.int .i64 0)])] [(On.mk (rP (rI .i64) (rP (rI .i64) (rP (rI .i64) (rI .i64)))) [((IntKind.wrap .i64 (x21 + r320)), (IntKind.wrap .i64 ((IntKind.wrap .i64 (x21 + r320)) + x329)), (IntKind.wrap .i64 ((IntKind.wrap .i64 ((IntKind.wrap .i64 (x21 + r320)) + x329)) + r337)), x345)] (some ⟨s321.next, 0, none⟩) 1 51 false s321.next), (On.mk (rP (rI .i64) (rP (rI .i64) (rP (rI .i64) (rI .i64)))) y19 A17 c18 51 false e20)] [(Fa.sr (rI .u8) A227 c228 t235.1)]) => ?_
      refine Rf.kappA 1 C348 rfl rfl (by decide) (by decide) (Ap.sr u47 rfl (C348.lb.srB m0)) fun A350 c351 e352 s357 h358 (C356 : Cx s0.next [] [] s0 { s357 with lowb := min s347.lowb s357.lowb } [(s100.next, AObj.box 76 (List.map (Value.int .i64) t235.2.2.1)), (i22, AObj.box 71 [(Value.slice A227 (t235.1).length c228), (Value.int .i64 t235.2.1)]), (i23, AObj.box 24 [(Value.int .i64 0), (Value.int .i64 0)])] [(On.mk (rP (rI .i64) (rP (rI .i64) (rP (rI .i64) (rI .i64)))) [((IntKind.wrap .i64 (x21 + r320)), (IntKind.wrap .i64 ((IntKind.wrap .i64 (x21 + r320)) + x329)), (IntKind.wrap .i64 ((IntKind.wrap .i64 ((IntKind.wrap .i64 (x21 + r320)) + x329)) + r337)), x345)] (some ⟨s321.next, 0, none⟩) 1 51 false s321.next), (On.mk (rP (rI .i64) (rP (rI .i64) (rP (rI .i64) (rI .i64)))) (y19 ++ [((IntKind.wrap .i64 (x21 + r320)), (IntKind.wrap .i64 ((IntKind.wrap .i64 (x21 + r320)) + x329)), (IntKind.wrap .i64 ((IntKind.wrap .i64 ((IntKind.wrap .i64 (x21 + r320)) + x329)) + r337)), x345)]) A350 c351 51 false e352)] [(Fa.sr (rI .u8) A227 c228 t235.1)]) => ?_
      refine Rf.ifp h358 ?_
      refine Rf.lt ?_
      generalize { s357 with lowb := min s347.lowb s357.lowb } = s355 at C356 ⊢
      have C359 : Cx s0.next [] [] s0 s355 [(s100.next, AObj.box 76 (List.map (Value.int .i64) t235.2.2.1)), (i22, AObj.box 71 [(Value.slice A227 (t235.1).length c228), (Value.int .i64 t235.2.1)]), (i23, AObj.box 24 [(Value.int .i64 0), (Value.int .i64 0)])] [(On.mk (rP (rI .i64) (rP (rI .i64) (rP (rI .i64) (rI .i64)))) (y19 ++ [((IntKind.wrap .i64 (x21 + r320)), (IntKind.wrap .i64 ((IntKind.wrap .i64 (x21 + r320)) + x329)), (IntKind.wrap .i64 ((IntKind.wrap .i64 ((IntKind.wrap .i64 (x21 + r320)) + x329)) + r337)), x345)]) A350 c351 51 false e352)] [(Fa.sr (rI .u8) A227 c228 t235.1)] := C356.sub (List.Sublist.refl _) (List.Sublist.cons _ (List.Sublist.cons_cons _ List.Sublist.slnil)) (List.Sublist.refl _)
      subst hH; subst hQ
      exact Rf.leaf fun h => h _ _ _ ⟨rfl, _, _, _, _, _, rfl, (C359.sub (List.Sublist.cons _ (List.Sublist.cons_cons _ (List.Sublist.cons_cons _ List.Sublist.slnil))) (List.Sublist.refl _) (List.Sublist.refl _))⟩
    · generalize s = s438 at h ⊢
      obtain ⟨rfl, rfl, C439⟩ := h
      rw [e18_after1_ret n]
      subst hH; subst hQ
      exact Rf.leaf fun h => h _ _ _ ⟨rfl, rfl, (C439.sub (List.Sublist.refl _) (List.Sublist.refl _) (List.Sublist.refl _))⟩
  · subst hH; subst hQ
    exact Rf.leaf fun h => h _ _ _ ⟨_, _, _, _, _, rfl, rfl, (C101.sub (List.Sublist.refl _) (List.Sublist.refl _) (List.Sublist.refl _))⟩
abbrev P18 (N : Nat) (X : List Nat) (r : ((List (Int × Int × Int × Int)) × (Int × Int))) (v : Value) (s : St) : Prop := ∃ (A0 : Option Addr) (c0 : Nat) (e0 : Nat), v = (Value.tuple #[(Value.slice A0 (r.1).length c0), (Value.agg #[(Value.int .i64 r.2.1), (Value.int .i64 r.2.2)])]) ∧ (On.mk (rP (rI .i64) (rP (rI .i64) (rP (rI .i64) (rI .i64)))) r.1 A0 c0 51 false e0).holds N X s
def p18 : Nat → (List Int) → Option ((List (Int × Int × Int × Int)) × (Int × Int))
  | 0, _ => none
  | n + 1, p0 => (((((loopP (pb18_1 n p0) n (p0, 0, ([] : List (Int × Int × Int × Int)), 0)).bind fun t644 => match t644 with | (.inl t454) => ((p39 n t454.2.2.1).bind fun r533 => ((if (!(((r533.1 : Int) == 0) && (((r533.2 : Int) == 0) && true))) then ((p28 n r533.1 (-1)).bind fun r549 => ((some (([] : (List (Int × Int × Int × Int))), (r549.1, r549.2))))) else (((some (t454.2.2.1, (0, 0)))))))) | (.inr t563) => (some (([] : (List (Int × Int × Int × Int))), (t563.1, t563.2)))))))
theorem t18 (k : Nat) (p0 : (List Int)) (s0 : St) {A0 : Option Addr} {c0 : Nat} (h0 : Sr (rI .u8) s0 A0 c0 p0) :
    Rf (p18 k p0) (fun _ => True) (fun r => RtC s0.next [] [] s0 (P18 s0.next [] r)) (acall E k 18 [(Value.slice A0 (p0).length c0)] s0) := by
  cases k with
  | zero => exact Rf.none
  | succ n =>
    rw [e18 n]
    rw [p18]
    refine Rf.gen fun H Q hH hQ => ?_
    have C0 : Cx s0.next [] [] s0 s0 [] [] [] := Cx.start s0
    refine Rf.new C0 fun s1 (C2 : Cx s0.next [] [] s0 s1 [(s0.next, AObj.box 24 [(Value.int .i64 0), (Value.int .i64 0)])] [] []) => ?_
    refine Rf.new C2 fun s4 (C5 : Cx s0.next [] [] s0 s4 [(s1.next, AObj.box 71 [(Value.slice A0 (p0).length c0), (Value.int .i64 0)]), (s0.next, AObj.box 24 [(Value.int .i64 0), (Value.int .i64 0)])] [] []) => ?_
    have C12 := C5.add (Fa.sr (rI .u8) A0 c0 p0) (C5.sr0 rfl h0)
    have C14 : Cx s0.next [] [] s0 s4 [(s1.next, AObj.box 71 [(Value.slice A0 (p0).length c0), (Value.int .i64 0)]), (s0.next, AObj.box 24 [(Value.int .i64 0), (Value.int .i64 0)])] [(On.mk (rP (rI .i64) (rP (rI .i64) (rP (rI .i64) (rI .i64)))) ([] : List (Int × Int × Int × Int)) none 0 51 false 0)] [(Fa.sr (rI .u8) A0 c0 p0)] := C12.addNil (rP (rI .i64) (rP (rI .i64) (rP (rI .i64) (rI .i64)))) 51
    refine Rf.loop (Inv := Inv18_1 s0 p0 A0 c0 h0 s1.next s0.next) (Ex := Ex18_1 s0 p0 A0 c0 h0 s1.next s0.next) (x18_1 s0 p0 A0 c0 h0 s1.next s0.next) (fun t g s K Q h => b18_1 n s0 p0 A0 c0 h0 s1.next s0.next t g s K Q h) n _ _ _ ⟨_, _, _, _, _, rfl, (C14.sub (List.Sublist.refl _) (List.Sublist.refl _) (List.Sublist.refl _))⟩ ?_
    intro t e g s h
    rcases t with t454 | t563
    · generalize s = s531 at h ⊢
      obtain ⟨A442, c443, A447, c448, e450, rfl, rfl, C532⟩ := h
      rw [e18_after0_exit0 n]
      refine Rf.call0 C532 (t39 n t454.2.2.1 s531 (C532.srB m0)) ?_
      rintro r533 _ s534 rfl h537
      have C538 : Cx s0.next [] [] s0 s534 [(s1.next, AObj.box 71 [(Value.slice A442 (t454.1).length c443), (Value.int .i64 t454.2.1)]), (s0.next, AObj.box 24 [(Value.int .i64 0), (Value.int .i64 0)])] [(On.mk (rP (rI .i64) (rP (rI .i64) (rP (rI .i64) (rI .i64)))) t454.2.2.1 A447 c448 51 false e450)] [(Fa.sr (rI .u8) A442 c443 t454.1)] := h537 [] (by simp) List.Pairwise.nil
      refine (Rf.asAgg (Rf.unc (Rf.asI (Rf.unc (Rf.asI (Rf.unn ?_))))))
      refine Rf.new C538 fun s539 (C540 : Cx s0.next [] [] s0 s539 [(s534.next, AObj.box 24 [(Value.int .i64 0), (Value.int .i64 0)]), (s1.next, AObj.box 71 [(Value.slice A442 (t454.1).length c443), (Value.int .i64 t454.2.1)]), (s0.next, AObj.box 24 [(Value.int .i64 0), (Value.int .i64 0)])] [(On.mk (rP (rI .i64) (rP (rI .i64) (rP (rI .i64) (rI .i64)))) t454.2.2.1 A447 c448 51 false e450)] [(Fa.sr (rI .u8) A442 c443 t454.1)]) => ?_
      refine Rf.sto 0 C540 rfl (by simp) rfl fun s542 (C543 : Cx s0.next [] [] s0 s542 [(s534.next, AObj.box 24 [(Value.int .i64 r533.1), (Value.int .i64 r533.2)]), (s1.next, AObj.box 71 [(Value.slice A442 (t454.1).length c443), (Value.int .i64 t454.2.1)]), (s0.next, AObj.box 24 [(Value.int .i64 0), (Value.int .i64 0)])] [(On.mk (rP (rI .i64) (rP (rI .i64) (rP (rI .i64) (rI .i64)))) t454.2.2.1 A447 c448 51 false e450)] [(Fa.sr (rI .u8) A442 c443 t454.1)]) => ?_
      refine Rf.ldI (C543.at m0 rfl) ?_
      refine Rf.ldI (C543.at m0 rfl) ?_
      refine Rf.ite ?_ ?_
      · refine Rf.ldI (C543.at m0 rfl) ?_
        refine Rf.call0 C543 (t28 n r533.1 (-1) s542) ?_
        rintro r549 _ s550 rfl h553
        have C554 : Cx s0.next [] [] s0 s550 [(s534.next, AObj.box 24 [(Value.int .i64 r533.1), (Value.int .i64 r533.2)]), (s1.next, AObj.box 71 [(Value.slice A442 (t454.1).length c443), (Value.int .i64 t454.2.1)]), (s0.next, AObj.box 24 [(Value.int .i64 0), (Value.int .i64 0)])] [(On.mk (rP (rI .i64) (rP (rI .i64) (rP (rI .i64) (rI .i64)))) t454.2.2.1 A447 c448 51 false e450)] [(Fa.sr (rI .u8) A442 c443 t454.1)] := h553 [] (by simp) List.Pairwise.nil
        refine (Rf.asAgg (Rf.unc (Rf.asI (Rf.unc (Rf.asI (Rf.unn ?_))))))
        refine Rf.sto 2 C554 rfl (by simp) rfl fun s555 (C556 : Cx s0.next [] [] s0 s555 [(s534.next, AObj.box 24 [(Value.int .i64 r533.1), (Value.int .i64 r533.2)]), (s1.next, AObj.box 71 [(Value.slice A442 (t454.1).length c443), (Value.int .i64 t454.2.1)]), (s0.next, AObj.box 24 [(Value.int .i64 r549.1), (Value.int .i64 r549.2)])] [(On.mk (rP (rI .i64) (rP (rI .i64) (rP (rI .i64) (rI .i64)))) t454.2.2.1 A447 c448 51 false e450)] [(Fa.sr (rI .u8) A442 c443 t454.1)]) => ?_
        refine Rf.ldI (C556.at m2 rfl) ?_
        refine Rf.ldI (C556.at m2 rfl) ?_
        subst hH; subst hQ
        exact Rf.leaf fun _ => Ev.done (Rf.ret C556 ⟨none, 0, 0, rfl, .inl ⟨rfl, rfl, rfl⟩⟩)
      · refine Rf.sto 2 C543 rfl (by simp) rfl fun s559 (C560 : Cx s0.next [] [] s0 s559 [(s534.next, AObj.box 24 [(Value.int .i64 r533.1), (Value.int .i64 r533.2)]), (s1.next, AObj.box 71 [(Value.slice A442 (t454.1).length c443), (Value.int .i64 t454.2.1)]), (s0.next, AObj.box 24 [(Value.int .i64 0), (Value.int .i64 0)])] [(On.mk (rP (rI .i64) (rP (rI .i64) (rP (rI .i64) (rI .i64)))) t454.2.2.1 A447 c448 51 false e450)] [(Fa.sr (rI .u8) A442 c443 t454.1)]) => ?_
        refine Rf.ldI (C560.at m2 rfl) ?_
        refine Rf.ldI (C560.at m2 rfl) ?_
        subst hH; subst hQ
        exact Rf.leaf fun _ => Ev.done (Rf.ret C560 ⟨_, _, _, rfl, C560.own _ m0⟩)
    · generalize s = s640 at h ⊢
      obtain ⟨rfl, rfl, C641⟩ := h
      rw [e18_after0_ret n]
      refine Rf.ldI (C641.at m0 rfl) ?_
      refine Rf.ldI (C641.at m0 rfl) ?_
      subst hH; subst hQ
      exact Rf.leaf fun _ => Ev.done (Rf.ret C641 ⟨none, 0, 0, rfl, .inl ⟨rfl, rfl, rfl⟩⟩)
-- 19 "brindlewood/brindlewoodref7.CatchesFault"
abbrev Inv19_1 (s0 : St) (p0 : (List (Int × Int × Int × Int))) (A0 : Option Addr) (c0 : Nat) (h0 : Sr (rP (rI .i64) (rP (rI .i64) (rP (rI .i64) (rI .i64)))) s0 A0 c0 p0) (i15 : Nat) (t : Int) (g : Regs) (s : St) : Prop := g = (rg 47 [(2, (Value.pointer (some ⟨i15, 0, none⟩))), (9, (Value.slice A0 (p0).length c0)), (10, (Value.int .i64 ((p0).length : Nat))), (11, (Value.int .i64 t))]) ∧ Cx s0.next [] [] s0 s [(i15, AObj.box 24 [(Value.int .i64 0), (Value.int .i64 0)])] [] []
abbrev Ex19_1 (s0 : St) (p0 : (List (Int × Int × Int × Int))) (A0 : Option Addr) (c0 : Nat) (h0 : Sr (rP (rI .i64) (rP (rI .i64) (rP (rI .i64) (rI .i64)))) s0 A0 c0 p0) (i15 : Nat) (t : (Int ⊕ (Int × Int))) (e : X) (g : Regs) (s : St) : Prop := match t with
  | (.inl t) => e = .exit 0 ∧ g = (rg 47 [(2, (Value.pointer (some ⟨i15, 0, none⟩))), (9, (Value.slice A0 (p0).length c0)), (10, (Value.int .i64 ((p0).length : Nat))), (11, (Value.int .i64 t)), (12, (Value.bool false))]) ∧ Cx s0.next [] [] s0 s [(i15, AObj.box 24 [(Value.int .i64 0), (Value.int .i64 0)])] [] []
  | (.inr t) => e = .ret ∧ g = (rg 47 [(2, (Value.pointer (some ⟨i15, 0, none⟩)))]) ∧ Cx s0.next [] [] s0 s [(i15, AObj.box 24 [(Value.int .i64 t.1), (Value.int .i64 t.2)])] [] []
theorem x19_1 (s0 : St) (p0 : (List (Int × Int × Int × Int))) (A0 : Option Addr) (c0 : Nat) (h0 : Sr (rP (rI .i64) (rP (rI .i64) (rP (rI .i64) (rI .i64)))) s0 A0 c0 p0) (i15 : Nat) (t : (Int ⊕ (Int × Int))) (e : X) (g : Regs) (s : St) (h : Ex19_1 s0 p0 A0 c0 h0 i15 t e g s) : e ≠ .normal := by
  rcases t with t | t
  · obtain ⟨h, _⟩ := h
    rw [h]; intro hh; cases hh
  · obtain ⟨h, _⟩ := h
    rw [h]; intro hh; cases hh
def pb19_1 (n : Nat) (p0 : (List (Int × Int × Int × Int))) (t : Int) : Option (Int ⊕ (Int ⊕ (Int × Int))) :=
  (if (decide ((t : Int) < ((p0).length : Nat))) then ((rd p0 t (fun x66 => (pj (fun (b126 : Bool) => if b126 then ((p10 n 4 t).bind fun r130 => (((some (.inr (.inr (r130.1, r130.2))))))) else (((some (.inl (IntKind.wrap .i64 (t + 1))))))) (fun J125 => if (decide ((x66.1 : Int) < 0)) then ((J125 true)) else (if (decide ((x66.1 : Int) ≥ x66.2.1)) then ((J125 true)) else (if (decide ((x66.2.1 : Int) > 60000)) then ((J125 true)) else ((p33 n x66.2.2.1 0 59999).bind fun r112 => if (!r112) then ((J125 true)) else ((p33 n x66.2.2.2 0 5000).bind fun r120 => (J125 (!r120))))))))))) else (((some (.inr (.inl t))))))
theorem b19_1 (n : Nat) (s0 : St) (p0 : (List (Int × Int × Int × Int))) (A0 : Option Addr) (c0 : Nat) (h0 : Sr (rP (rI .i64) (rP (rI .i64) (rP (rI .i64) (rI .i64)))) s0 A0 c0 p0) (i15 : Nat) (x14 : Int) (g : Regs) (s63 : St) (K : Kont) (Q : Out → St → Prop) (h : Inv19_1 s0 p0 A0 c0 h0 i15 x14 g s63) :
    Rf (pb19_1 n p0 x14) (fun r => ∀ e g' s', LK (Inv19_1 s0 p0 A0 c0 h0 i15) (Ex19_1 s0 p0 A0 c0 h0 i15) r e g' s' → Ev (K e g' s') Q) (fun _ => Q) (kBody E 19 n [.b, .b, .a, .b, .a, .a] g s63 K) := by
  obtain ⟨rfl, C64⟩ := h
  rw [e19_body0 n]
  unfold pb19_1
  refine Rf.gen fun H Q hH hQ => ?_
  refine Rf.ite ?_ ?_
  · refine Rf.elt (r := (rP (rI .i64) (rP (rI .i64) (rP (rI .i64) (rI .i64))))) (C64.sr0 rfl h0) rfl fun x66 i67 o68 c69 r70 h71 => ?_
    obtain ⟨c76, c77, rfl, r78, r79⟩ := rP_elim r70
    obtain rfl := rI_elim r78
    obtain ⟨c80, c81, rfl, r82, r83⟩ := rP_elim r79
    obtain rfl := rI_elim r82
    obtain ⟨c84, c85, rfl, r86, r87⟩ := rP_elim r83
    obtain rfl := rI_elim r86
    obtain rfl := rI_elim r87
    refine Rf.ldI (h71.at 0 rfl) ?_
    refine Rf.ldI (h71.at 1 rfl) ?_
    refine Rf.ldI (h71.at 2 rfl) ?_
    refine Rf.ldI (h71.at 3 rfl) ?_
    refine Rf.new C64 fun s92 (C93 : Cx s0.next [] [] s0 s92 [(s63.next, AObj.box 51 [(Value.int .i64 0), (Value.int .i64 0), (Value.int .i64 0), (Value.int .i64 0)]), (i15, AObj.box 24 [(Value.int .i64 0), (Value.int .i64 0)])] [] []) => ?_
    refine Rf.sto 0 C93 rfl (by simp) rfl fun s95 (C96 : Cx s0.next [] [] s0 s95 [(s63.next, AObj.box 51 [(Value.int .i64 x66.1), (Value.int .i64 x66.2.1), (Value.int .i64 x66.2.2.1), (Value.int .i64 x66.2.2.2)]), (i15, AObj.box 24 [(Value.int .i64 0), (Value.int .i64 0)])] [] []) => ?_
    refine Rf.pj fun J125 J125' hJ125 hJ125' => ?_
    have J125h : ∀ (b126 : Bool) (s128 : St) (_ : Cx s0.next [] [] s0 s128 [(i15, AObj.box 24 [(Value.int .i64 0), (Value.int .i64 0)])] [] []), Rf (J125 b126) H Q (J125' b126 s128) := by
      subst hJ125
      subst hJ125'
      intro b126 s128 C129
      refine Rf.ite ?_ ?_
      · refine Rf.call0 C129 (t10 n 4 x14 s128) ?_
        rintro r130 _ s131 rfl h134
        have C135 : Cx s0.next [] [] s0 s131 [(i15, AObj.box 24 [(Value.int .i64 0), (Value.int .i64 0)])] [] [] := h134 [] (by simp) List.Pairwise.nil
        refine (Rf.asAgg (Rf.unc (Rf.asI (Rf.unc (Rf.asI (Rf.unn ?_))))))
        refine Rf.sto 0 C135 rfl (by simp) rfl fun s136 (C137 : Cx s0.next [] [] s0 s136 [(i15, AObj.box 24 [(Value.int .i64 r130.1), (Value.int .i64 r130.2)])] [] []) => ?_
        subst hH; subst hQ
        exact Rf.leaf fun h => h _ _ _ ⟨rfl, rfl, (C137.sub (List.Sublist.refl _) (List.Sublist.refl _) (List.Sublist.refl _))⟩
      · subst hH; subst hQ
        exact Rf.leaf fun h => h _ _ _ ⟨rfl, rfl, (C129.sub (List.Sublist.refl _) (List.Sublist.refl _) (List.Sublist.refl _))⟩
    clear hJ125 hJ125'
    refine Rf.ldI (C96.at m0 rfl) ?_
    refine Rf.ite ?_ ?_
    · exact J125h true _ (C96.sub (List.Sublist.cons _ (List.Sublist.cons_cons _ List.Sublist.slnil)) (List.Sublist.refl _) (List.Sublist.refl _))
    · refine Rf.ldI (C96.at m0 rfl) ?_
      refine Rf.ldI (C96.at m0 rfl) ?_
      refine Rf.ite ?_ ?_
      · exact J125h true _ (C96.sub (List.Sublist.cons _ (List.Sublist.cons_cons _ List.Sublist.slnil)) (List.Sublist.refl _) (List.Sublist.refl _))
      · refine Rf.ldI (C96.at m0 rfl) ?_
        refine Rf.ite ?_ ?_
        · exact J125h true _ (C96.sub (List.Sublist.cons _ (List.Sublist.cons_cons _ List.Sublist.slnil)) (List.Sublist.refl _) (List.Sublist.refl _))
        · refine Rf.ldI (C96.at m0 rfl) ?_
          refine Rf.call0 C96 (t33 n x66.2.2.1 0 59999 s95) ?_
          rintro r112 _ s113 rfl h115
          have C116 : Cx s0.next [] [] s0 s113 [(s63.next, AObj.box 51 [(Value.int .i64 x66.1), (Value.int .i64 x66.2.1), (Value.int .i64 x66.2.2.1), (Value.int .i64 x66.2.2.2)]), (i15, AObj.box 24 [(Value.int .i64 0), (Value.int .i64 0)])] [] [] := h115 [] (by simp) List.Pairwise.nil
          refine (Rf.asB ?_)
          refine Rf.ite ?_ ?_
          · exact J125h true _ (C116.sub (List.Sublist.cons _ (List.Sublist.cons_cons _ List.Sublist.slnil)) (List.Sublist.refl _) (List.Sublist.refl _))
          · refine Rf.ldI (C116.at m0 rfl) ?_
            refine Rf.call0 C116 (t33 n x66.2.2.2 0 5000 s113) ?_
            rintro r120 _ s121 rfl h123
            have C124 : Cx s0.next [] [] s0 s121 [(s63.next, AObj.box 51 [(Value.int .i64 x66.1), (Value.int .i64 x66.2.1), (Value.int .i64 x66.2.2.1), (Value.int .i64 x66.2.2.2)]), (i15, AObj.box 24 [(Value.int .i64 0), (Value.int .i64 0)])] [] [] := h123 [] (by simp) List.Pairwise.nil
            refine (Rf.asB ?_)
            exact J125h (!r120) _ (C124.sub (List.Sublist.cons _ (List.Sublist.cons_cons _ List.Sublist.slnil)) (List.Sublist.refl _) (List.Sublist.refl _))
  · subst hH; subst hQ
    exact Rf.leaf fun h => h _ _ _ ⟨rfl, rfl, (C64.sub (List.Sublist.refl _) (List.Sublist.refl _) (List.Sublist.refl _))⟩
abbrev P19 (N : Nat) (X : List Nat) (r : (Int × Int)) (v : Value) (s : St) : Prop := v = (Value.agg #[(Value.int .i64 r.1), (Value.int .i64 r.2)])
def p19 : Nat → (List (Int × Int × Int × Int)) → Option (Int × Int)
  | 0, _ => none
  | n + 1, p0 => ((if (decide ((((p0).length : Nat) : Int) > 60000)) then ((p10 n 2 (-1)).bind fun r4 => ((some (r4.1, r4.2)))) else ((((loopP (pb19_1 n p0) n 0).bind fun t247 => match t247 with | (.inl t141) => ((some (0, 0))) | (.inr t195) => (some (t195.1, t195.2)))))))
theorem t19 (k : Nat) (p0 : (List (Int × Int × Int × Int))) (s0 : St) {A0 : Option Addr} {c0 : Nat} (h0 : Sr (rP (rI .i64) (rP (rI .i64) (rP (rI .i64) (rI .i64)))) s0 A0 c0 p0) :
    Rf (p19 k p0) (fun _ => True) (fun r => RtC s0.next [] [] s0 (P19 s0.next [] r)) (acall E k 19 [(Value.slice A0 (p0).length c0)] s0) := by
  cases k with
  | zero => exact Rf.none
  | succ n =>
    rw [e19 n]
    rw [p19]
    refine Rf.gen fun H Q hH hQ => ?_
    have C0 : Cx s0.next [] [] s0 s0 [] [] [] := Cx.start s0
    refine Rf.new C0 fun s1 (C2 : Cx s0.next [] [] s0 s1 [(s0.next, AObj.box 24 [(Value.int .i64 0), (Value.int .i64 0)])] [] []) => ?_
    refine Rf.ite ?_ ?_
    · refine Rf.call0 C2 (t10 n 2 (-1) s1) ?_
      rintro r4 _ s5 rfl h8
      have C9 : Cx s0.next [] [] s0 s5 [(s0.next, AObj.box 24 [(Value.int .i64 0), (Value.int .i64 0)])] [] [] := h8 [] (by simp) List.Pairwise.nil
      refine (Rf.asAgg (Rf.unc (Rf.asI (Rf.unc (Rf.asI (Rf.unn ?_))))))
      refine Rf.sto 0 C9 rfl (by simp) rfl fun s10 (C11 : Cx s0.next [] [] s0 s10 [(s0.next, AObj.box 24 [(Value.int .i64 r4.1), (Value.int .i64 r4.2)])] [] []) => ?_
      refine Rf.ldI (C11.at m0 rfl) ?_
      refine Rf.ldI (C11.at m0 rfl) ?_
      subst hH; subst hQ
      exact Rf.leaf fun _ => Ev.done (Rf.ret C11 rfl)
    · refine Rf.loop (Inv := Inv19_1 s0 p0 A0 c0 h0 s0.next) (Ex := Ex19_1 s0 p0 A0 c0 h0 s0.next) (x19_1 s0 p0 A0 c0 h0 s0.next) (fun t g s K Q h => b19_1 n s0 p0 A0 c0 h0 s0.next t g s K Q h) n _ _ _ ⟨rfl, (C2.sub (List.Sublist.refl _) (List.Sublist.refl _) (List.Sublist.refl _))⟩ ?_
      intro t e g s h
      rcases t with t141 | t195
      · generalize s = s189 at h ⊢
        obtain ⟨rfl, rfl, C190⟩ := h
        rw [e19_after0_exit0 n]
        refine Rf.sto 0 C190 rfl (by simp) rfl fun s191 (C192 : Cx s0.next [] [] s0 s191 [(s0.next, AObj.box 24 [(Value.int .i64 0), (Value.int .i64 0)])] [] []) => ?_
        refine Rf.ldI (C192.at m0 rfl) ?_
        refine Rf.ldI (C192.at m0 rfl) ?_
        subst hH; subst hQ
        exact Rf.leaf fun _ => Ev.done (Rf.ret C192 rfl)
      · generalize s = s243 at h ⊢
        obtain ⟨rfl, rfl, C244⟩ := h
        rw [e19_after0_ret n]
        refine Rf.ldI (C244.at m0 rfl) ?_
        refine Rf.ldI (C244.at m0 rfl) ?_
        subst hH; subst hQ
        exact Rf.leaf fun _ => Ev.done (Rf.ret C244 rfl)
-- 20 "slices.Equal[[]brindlewood/api.Catch,brindlewood/api.Catch]"
abbrev Inv20_1 (s0 : St) (p0 : (List (Int × Int × Int × Int))) (p1 : (List (Int × Int × Int × Int))) (A0 : Option Addr) (c0 : Nat) (A1 : Option Addr) (c1 : Nat) (h0 : Sr (rP (rI .i64) (rP (rI .i64) (rP (rI .i64) (rI .i64)))) s0 A0 c0 p0) (h1 : Sr (rP (rI .i64) (rP (rI .i64) (rP (rI .i64) (rI .i64)))) s0 A1 c1 p1)  (t : Int) (g : Regs) (s : St) : Prop := g = (rg 26 [(0, (Value.slice A0 (p0).length c0)), (1, (Value.slice A1 (p1).length c1)), (12, (Value.int .i64 ((p0).length : Nat))), (13, (Value.int .i64 t))]) ∧ Cx s0.next [] [] s0 s [] [] []
abbrev Ex20_1 (s0 : St) (p0 : (List (Int × Int × Int × Int))) (p1 : (List (Int × Int × Int × Int))) (A0 : Option Addr) (c0 : Nat) (A1 : Option Addr) (c1 : Nat) (h0 : Sr (rP (rI .i64) (rP (rI .i64) (rP (rI .i64) (rI .i64)))) s0 A0 c0 p0) (h1 : Sr (rP (rI .i64) (rP (rI .i64) (rP (rI .i64) (rI .i64)))) s0 A1 c1 p1)  (t : (Int ⊕ Unit)) (e : X) (g : Regs) (s : St) : Prop := match t with
  | (.inl t) => e = .exit 0 ∧ g = (rg 26 [(0, (Value.slice A0 (p0).length c0)), (1, (Value.slice A1 (p1).length c1)), (12, (Value.int .i64 ((p0).length : Nat))), (13, (Value.int .i64 t)), (14, (Value.bool false))]) ∧ Cx s0.next [] [] s0 s [] [] []
  | (.inr t) => e = .ret ∧ g = (rg 26 [(4, (Value.bool false))]) ∧ Cx s0.next [] [] s0 s [] [] []
theorem x20_1 (s0 : St) (p0 : (List (Int × Int × Int × Int))) (p1 : (List (Int × Int × Int × Int))) (A0 : Option Addr) (c0 : Nat) (A1 : Option Addr) (c1 : Nat) (h0 : Sr (rP (rI .i64) (rP (rI .i64) (rP (rI .i64) (rI .i64)))) s0 A0 c0 p0) (h1 : Sr (rP (rI .i64) (rP (rI .i64) (rP (rI .i64) (rI .i64)))) s0 A1 c1 p1)  (t : (Int ⊕ Unit)) (e : X) (g : Regs) (s : St) (h : Ex20_1 s0 p0 p1 A0 c0 A1 c1 h0 h1  t e g s) : e ≠ .normal := by
  rcases t with t | t
  · obtain ⟨h, _⟩ := h
    rw [h]; intro hh; cases hh
  · obtain ⟨h, _⟩ := h
    rw [h]; intro hh; cases hh
def pb20_1 (n : Nat) (p0 : (List (Int × Int × Int × Int))) (p1 : (List (Int × Int × Int × Int))) (t : Int) : Option (Int ⊕ (Int ⊕ Unit)) :=
  (if (decide ((t : Int) < ((p0).length : Nat))) then (((rd p0 t (fun x31 => rd p1 t (fun x57 => (if (!(((x31.1 : Int) == x57.1) && (((x31.2.1 : Int) == x57.2.1) && (((x31.2.2.1 : Int) == x57.2.2.1) && (((x31.2.2.2 : Int) == x57.2.2.2) && true))))) then ((((some (.inr (.inr ())))))) else (((some (.inl (IntKind.wrap .i64 (t + 1)))))))))))) else (((some (.inr (.inl t))))))
theorem b20_1 (n : Nat) (s0 : St) (p0 : (List (Int × Int × Int × Int))) (p1 : (List (Int × Int × Int × Int))) (A0 : Option Addr) (c0 : Nat) (A1 : Option Addr) (c1 : Nat) (h0 : Sr (rP (rI .i64) (rP (rI .i64) (rP (rI .i64) (rI .i64)))) s0 A0 c0 p0) (h1 : Sr (rP (rI .i64) (rP (rI .i64) (rP (rI .i64) (rI .i64)))) s0 A1 c1 p1)  (x1 : Int) (g : Regs) (s28 : St) (K : Kont) (Q : Out → St → Prop) (h : Inv20_1 s0 p0 p1 A0 c0 A1 c1 h0 h1  x1 g s28) :
    Rf (pb20_1 n p0 p1 x1) (fun r => ∀ e g' s', LK (Inv20_1 s0 p0 p1 A0 c0 A1 c1 h0 h1 ) (Ex20_1 s0 p0 p1 A0 c0 A1 c1 h0 h1 ) r e g' s' → Ev (K e g' s') Q) (fun _ => Q) (kBody E 20 n [.b, .b, .a, .b, .a, .a] g s28 K) := by
  obtain ⟨rfl, C29⟩ := h
  rw [e20_body0 n]
  unfold pb20_1
  refine Rf.gen fun H Q hH hQ => ?_
  refine Rf.ite ?_ ?_
  · refine Rf.elt (r := (rP (rI .i64) (rP (rI .i64) (rP (rI .i64) (rI .i64))))) (C29.sr0 rfl h0) rfl fun x31 i32 o33 c34 r35 h36 => ?_
    obtain ⟨c41, c42, rfl, r43, r44⟩ := rP_elim r35
    obtain rfl := rI_elim r43
    obtain ⟨c45, c46, rfl, r47, r48⟩ := rP_elim r44
    obtain rfl := rI_elim r47
    obtain ⟨c49, c50, rfl, r51, r52⟩ := rP_elim r48
    obtain rfl := rI_elim r51
    obtain rfl := rI_elim r52
    refine Rf.ldI (h36.at 0 rfl) ?_
    refine Rf.ldI (h36.at 1 rfl) ?_
    refine Rf.ldI (h36.at 2 rfl) ?_
    refine Rf.ldI (h36.at 3 rfl) ?_
    refine Rf.elt (r := (rP (rI .i64) (rP (rI .i64) (rP (rI .i64) (rI .i64))))) (C29.sr0 rfl h1) rfl fun x57 i58 o59 c60 r61 h62 => ?_
    obtain ⟨c67, c68, rfl, r69, r70⟩ := rP_elim r61
    obtain rfl := rI_elim r69
    obtain ⟨c71, c72, rfl, r73, r74⟩ := rP_elim r70
    obtain rfl := rI_elim r73
    obtain ⟨c75, c76, rfl, r77, r78⟩ := rP_elim r74
    obtain rfl := rI_elim r77
    obtain rfl := rI_elim r78
    refine Rf.ldI (h62.at 0 rfl) ?_
    refine Rf.ldI (h62.at 1 rfl) ?_
    refine Rf.ldI (h62.at 2 rfl) ?_
    refine Rf.ldI (h62.at 3 rfl) ?_
    refine Rf.ite ?_ ?_
    · subst hH; subst hQ
      exact Rf.leaf fun h => h _ _ _ ⟨rfl, rfl, (C29.sub (List.Sublist.refl _) (List.Sublist.refl _) (List.Sublist.refl _))⟩
    · subst hH; subst hQ
      exact Rf.leaf fun h => h _ _ _ ⟨rfl, rfl, (C29.sub (List.Sublist.refl _) (List.Sublist.refl _) (List.Sublist.refl _))⟩
  · subst hH; subst hQ
    exact Rf.leaf fun h => h _ _ _ ⟨rfl, rfl, (C29.sub (List.Sublist.refl _) (List.Sublist.refl _) (List.Sublist.refl _))⟩
abbrev P20 (N : Nat) (X : List Nat) (r : Bool) (v : Value) (s : St) : Prop := v = (Value.bool r)
def p20 : Nat → (List (Int × Int × Int × Int)) → (List (Int × Int × Int × Int)) → Option Bool
  | 0, _, _ => none
  | n + 1, p0, p1 => ((if ((((p0).length : Nat) : Int) != ((p1).length : Nat)) then (((some false))) else ((((loopP (pb20_1 n p0 p1) n 0).bind fun t142 => match t142 with | (.inl t84) => ((some true)) | (.inr t113) => (some false))))))
theorem t20 (k : Nat) (p0 : (List (Int × Int × Int × Int))) (p1 : (List (Int × Int × Int × Int))) (s0 : St) {A0 : Option Addr} {c0 : Nat} {A1 : Option Addr} {c1 : Nat} (h0 : Sr (rP (rI .i64) (rP (rI .i64) (rP (rI .i64) (rI .i64)))) s0 A0 c0 p0) (h1 : Sr (rP (rI .i64) (rP (rI .i64) (rP (rI .i64) (rI .i64)))) s0 A1 c1 p1) :
    Rf (p20 k p0 p1) (fun _ => True) (fun r => RtC s0.next [] [] s0 (P20 s0.next [] r)) (acall E k 20 [(Value.slice A0 (p0).length c0), (Value.slice A1 (p1).length c1)] s0) := by
  cases k with
  | zero => exact Rf.none
  | succ n =>
    rw [e20 n]
    rw [p20]
    refine Rf.gen fun H Q hH hQ => ?_
    have C0 : Cx s0.next [] [] s0 s0 [] [] [] := Cx.start s0
    refine Rf.ite ?_ ?_
    · subst hH; subst hQ
      exact Rf.leaf fun _ => Ev.done (Rf.ret C0 rfl)
    · refine Rf.loop (Inv := Inv20_1 s0 p0 p1 A0 c0 A1 c1 h0 h1 ) (Ex := Ex20_1 s0 p0 p1 A0 c0 A1 c1 h0 h1 ) (x20_1 s0 p0 p1 A0 c0 A1 c1 h0 h1 ) (fun t g s K Q h => b20_1 n s0 p0 p1 A0 c0 A1 c1 h0 h1  t g s K Q h) n _ _ _ ⟨rfl, (C0.sub (List.Sublist.refl _) (List.Sublist.refl _) (List.Sublist.refl _))⟩ ?_
      intro t e g s h
      rcases t with t84 | t113
      · generalize s = s111 at h ⊢
        obtain ⟨rfl, rfl, C112⟩ := h
        rw [e20_after0_exit0 n]
        subst hH; subst hQ
        exact Rf.leaf fun _ => Ev.done (Rf.ret C112 rfl)
      · generalize s = s140 at h ⊢
        obtain ⟨rfl, rfl, C141⟩ := h
        rw [e20_after0_ret n]
        subst hH; subst hQ
        exact Rf.leaf fun _ => Ev.done (Rf.ret C141 rfl)
-- 21 "brindlewood/tables.PackCatches"
abbrev Inv21_2 (s0 : St) (p0 : (List (Int × Int × Int × Int))) (A0 : Option Addr) (c0 : Nat) (h0 : Sr (rP (rI .i64) (rP (rI .i64) (rP (rI .i64) (rI .i64)))) s0 A0 c0 p0) (i32 : Nat) (x31 : Int) (x92 : (Int × Int × Int × Int)) (A159 : Option Addr) (e160 : Nat) (i158 : Nat) (r126 : Int) (r142 : Int) (t : ((List Int) × Int)) (g : Regs) (s : St) : Prop := ∃ (A153 : Option Addr) (c154 : Nat) (e156 : Nat), g = (rg 56 [(3, (Value.pointer (some ⟨i32, 0, none⟩))), (5, (Value.slice A153 (t.1).length c154)), (8, (Value.pointer (some ⟨i158, 0, none⟩))), (17, (Value.slice A0 (p0).length c0)), (18, (Value.int .i64 ((p0).length : Nat))), (19, (Value.int .i64 x31)), (41, (Value.slice A159 ([r126, (IntKind.wrap .i64 (x92.2.1 - x92.1)), r142, x92.2.2.2]).length 4)), (42, (Value.int .i64 (([r126, (IntKind.wrap .i64 (x92.2.1 - x92.1)), r142, x92.2.2.2]).length : Nat))), (43, (Value.int .i64 t.2))]) ∧ Cx s0.next [] [] s0 s [(i158, AObj.box 51 [(Value.int .i64 x92.1), (Value.int .i64 x92.2.1), (Value.int .i64 x92.2.2.1), (Value.int .i64 x92.2.2.2)]), (i32, AObj.box 24 [(Value.int .i64 0), (Value.int .i64 0)])] [(On.mk (rI .i64) [r126, (IntKind.wrap .i64 (x92.2.1 - x92.1)), r142, x92.2.2.2] A159 4 3 false e160), (On.mk (rI .u8) t.1 A153 c154 5 false e156)] []
abbrev Ex21_2 (s0 : St) (p0 : (List (Int × Int × Int × Int))) (A0 : Option Addr) (c0 : Nat) (h0 : Sr (rP (rI .i64) (rP (rI .i64) (rP (rI .i64) (rI .i64)))) s0 A0 c0 p0) (i32 : Nat) (x31 : Int) (x92 : (Int × Int × Int × Int)) (A159 : Option Addr) (e160 : Nat) (i158 : Nat) (r126 : Int) (r142 : Int) (t : ((List Int) × Int)) (e : X) (g : Regs) (s : St) : Prop := ∃ (A238 : Option Addr) (c239 : Nat) (e241 : Nat), e = .exit 2 ∧ g = (rg 56 [(3, (Value.pointer (some ⟨i32, 0, none⟩))), (5, (Value.slice A238 (t.1).length c239)), (8, (Value.pointer (some ⟨i158, 0, none⟩))), (17, (Value.slice A0 (p0).length c0)), (18, (Value.int .i64 ((p0).length : Nat))), (19, (Value.int .i64 x31)), (41, (Value.slice A159 ([r126, (IntKind.wrap .i64 (x92.2.1 - x92.1)), r142, x92.2.2.2]).length 4)), (42, (Value.int .i64 (([r126, (IntKind.wrap .i64 (x92.2.1 - x92.1)), r142, x92.2.2.2]).length : Nat))), (43, (Value.int .i64 t.2)), (44, (Value.bool false))]) ∧ Cx s0.next [] [] s0 s [(i158, AObj.box 51 [(Value.int .i64 x92.1), (Value.int .i64 x92.2.1), (Value.int .i64 x92.2.2.1), (Value.int .i64 x92.2.2.2)]), (i32, AObj.box 24 [(Value.int .i64 0), (Value.int .i64 0)])] [(On.mk (rI .i64) [r126, (IntKind.wrap .i64 (x92.2.1 - x92.1)), r142, x92.2.2.2] A159 4 3 false e160), (On.mk (rI .u8) t.1 A238 c239 5 false e241)] []
theorem x21_2 (s0 : St) (p0 : (List (Int × Int × Int × Int))) (A0 : Option Addr) (c0 : Nat) (h0 : Sr (rP (rI .i64) (rP (rI .i64) (rP (rI .i64) (rI .i64)))) s0 A0 c0 p0) (i32 : Nat) (x31 : Int) (x92 : (Int × Int × Int × Int)) (A159 : Option Addr) (e160 : Nat) (i158 : Nat) (r126 : Int) (r142 : Int) (t : ((List Int) × Int)) (e : X) (g : Regs) (s : St) (h : Ex21_2 s0 p0 A0 c0 h0 i32 x31 x92 A159 e160 i158 r126 r142 t e g s) : e ≠ .normal := by
  obtain ⟨_, _, _, h, _⟩ := h
  rw [h]; intro hh; cases hh
def pb21_2 (n : Nat)  (x92 : (Int × Int × Int × Int)) (r126 : Int) (r142 : Int) (t : ((List Int) × Int)) : Option (((List Int) × Int) ⊕ ((List Int) × Int)) :=
  (if (decide ((t.2 : Int) < (([r126, (IntKind.wrap .i64 (x92.2.1 - x92.1)), r142, x92.2.2.2]).length : Nat))) then ((rd [r126, (IntKind.wrap .i64 (x92.2.1 - x92.1)), r142, x92.2.2.2] t.2 (fun x220 => ((p31 n t.1 x220).bind fun r227 => ((some (.inl (r227, (IntKind.wrap .i64 (t.2 + 1)))))))))) else (((some (.inr (t.1, t.2))))))
theorem b21_2 (n : Nat) (s0 : St) (p0 : (List (Int × Int × Int × Int))) (A0 : Option Addr) (c0 : Nat) (h0 : Sr (rP (rI .i64) (rP (rI .i64) (rP (rI .i64) (rI .i64)))) s0 A0 c0 p0) (i32 : Nat) (x31 : Int) (x92 : (Int × Int × Int × Int)) (A159 : Option Addr) (e160 : Nat) (i158 : Nat) (r126 : Int) (r142 : Int) (t : ((List Int) × Int)) (g : Regs) (s217 : St) (K : Kont) (Q : Out → St → Prop) (h : Inv21_2 s0 p0 A0 c0 h0 i32 x31 x92 A159 e160 i158 r126 r142 t g s217) :
    Rf (pb21_2 n x92 r126 r142 t) (fun r => ∀ e g' s', LK (Inv21_2 s0 p0 A0 c0 h0 i32 x31 x92 A159 e160 i158 r126 r142) (Ex21_2 s0 p0 A0 c0 h0 i32 x31 x92 A159 e160 i158 r126 r142) r e g' s' → Ev (K e g' s') Q) (fun _ => Q) (kBody E 21 n [.b, .b, .b, .b, .a, .b, .a, .a, .b, .b, .a, .a, .b, .a, .b, .a, .a] g s217 K) := by
  obtain ⟨y155, x157⟩ := t
  obtain ⟨A153, c154, e156, rfl, C218⟩ := h
  rw [e21_body1 n]
  unfold pb21_2
  refine Rf.gen fun H Q hH hQ => ?_
  try dsimp only
  refine Rf.ite ?_ ?_
  · refine Rf.elt (r := (rI .i64)) (C218.srB m0) rfl fun x220 i221 o222 c223 r224 h225 => ?_
    obtain rfl := rI_elim r224
    refine Rf.ldI (h225.at 0 rfl) ?_
    refine Rf.callO 1 C218 rfl (t31 n y155 x220 s217 (C218.give m1 rfl)) ?_
    rintro r227 _ s228 ⟨A229, c230, e232, rfl, h231⟩ h235
    have C236 : Cx s0.next [] [] s0 s228 [(i158, AObj.box 51 [(Value.int .i64 x92.1), (Value.int .i64 x92.2.1), (Value.int .i64 x92.2.2.1), (Value.int .i64 x92.2.2.2)]), (i32, AObj.box 24 [(Value.int .i64 0), (Value.int .i64 0)])] [(On.mk (rI .i64) [r126, (IntKind.wrap .i64 (x92.2.1 - x92.1)), r142, x92.2.2.2] A159 4 3 false e160), (On.mk (rI .u8) r227 A229 c230 5 false e232)] [] := h235 _ h231
    refine (Rf.asSl ?_)
    subst hH; subst hQ
    exact Rf.leaf fun h => h _ _ _ ⟨rfl, _, _, _, rfl, (C236.sub (List.Sublist.refl _) (List.Sublist.refl _) (List.Sublist.refl _))⟩
  · subst hH; subst hQ
    exact Rf.leaf fun h => h _ _ _ ⟨_, _, _, rfl, rfl, (C218.sub (List.Sublist.refl _) (List.Sublist.refl _) (List.Sublist.refl _))⟩
abbrev Inv21_1 (s0 : St) (p0 : (List (Int × Int × Int × Int))) (A0 : Option Addr) (c0 : Nat) (h0 : Sr (rP (rI .i64) (rP (rI .i64) (rP (rI .i64) (rI .i64)))) s0 A0 c0 p0) (i32 : Nat) (t : ((List Int) × Int × Int)) (g : Regs) (s : St) : Prop := ∃ (A26 : Option Addr) (c27 : Nat) (e29 : Nat), g = (rg 56 [(3, (Value.pointer (some ⟨i32, 0, none⟩))), (5, (Value.slice A26 (t.1).length c27)), (6, (Value.int .i64 t.2.1)), (17, (Value.slice A0 (p0).length c0)), (18, (Value.int .i64 ((p0).length : Nat))), (19, (Value.int .i64 t.2.2))]) ∧ Cx s0.next [] [] s0 s [(i32, AObj.box 24 [(Value.int .i64 0), (Value.int .i64 0)])] [(On.mk (rI .u8) t.1 A26 c27 5 false e29)] []
abbrev Ex21_1 (s0 : St) (p0 : (List (Int × Int × Int × Int))) (A0 : Option Addr) (c0 : Nat) (h0 : Sr (rP (rI .i64) (rP (rI .i64) (rP (rI .i64) (rI .i64)))) s0 A0 c0 p0) (i32 : Nat) (t : ((List Int) × Int × Int)) (e : X) (g : Regs) (s : St) : Prop := ∃ (A306 : Option Addr) (c307 : Nat) (e309 : Nat), e = .exit 0 ∧ g = (rg 56 [(3, (Value.pointer (some ⟨i32, 0, none⟩))), (5, (Value.slice A306 (t.1).length c307)), (6, (Value.int .i64 t.2.1)), (17, (Value.slice A0 (p0).length c0)), (18, (Value.int .i64 ((p0).length : Nat))), (19, (Value.int .i64 t.2.2)), (20, (Value.bool false))]) ∧ Cx s0.next [] [] s0 s [(i32, AObj.box 24 [(Value.int .i64 0), (Value.int .i64 0)])] [(On.mk (rI .u8) t.1 A306 c307 5 false e309)] []
theorem x21_1 (s0 : St) (p0 : (List (Int × Int × Int × Int))) (A0 : Option Addr) (c0 : Nat) (h0 : Sr (rP (rI .i64) (rP (rI .i64) (rP (rI .i64) (rI .i64)))) s0 A0 c0 p0) (i32 : Nat) (t : ((List Int) × Int × Int)) (e : X) (g : Regs) (s : St) (h : Ex21_1 s0 p0 A0 c0 h0 i32 t e g s) : e ≠ .normal := by
  obtain ⟨_, _, _, h, _⟩ := h
  rw [h]; intro hh; cases hh
def pb21_1 (n : Nat) (p0 : (List (Int × Int × Int × Int))) (t : ((List Int) × Int × Int)) : Option (((List Int) × Int × Int) ⊕ ((List Int) × Int × Int)) :=
  (if (decide ((t.2.2 : Int) < ((p0).length : Nat))) then ((rd p0 t.2.2 (fun x92 => ((p32 n (IntKind.wrap .i64 (x92.1 - t.2.1))).bind fun r126 => (p32 n (IntKind.wrap .i64 (x92.2.2.1 - x92.2.1))).bind fun r142 => ((loopP (pb21_2 n x92 r126 r142) n (t.1, 0)).bind fun t243 => (some (.inl (t243.1, x92.1, (IntKind.wrap .i64 (t.2.2 + 1)))))))))) else (((some (.inr (t.1, t.2.1, t.2.2))))))
theorem b21_1 (n : Nat) (s0 : St) (p0 : (List (Int × Int × Int × Int))) (A0 : Option Addr) (c0 : Nat) (h0 : Sr (rP (rI .i64) (rP (rI .i64) (rP (rI .i64) (rI .i64)))) s0 A0 c0 p0) (i32 : Nat) (t : ((List Int) × Int × Int)) (g : Regs) (s89 : St) (K : Kont) (Q : Out → St → Prop) (h : Inv21_1 s0 p0 A0 c0 h0 i32 t g s89) :
    Rf (pb21_1 n p0 t) (fun r => ∀ e g' s', LK (Inv21_1 s0 p0 A0 c0 h0 i32) (Ex21_1 s0 p0 A0 c0 h0 i32) r e g' s' → Ev (K e g' s') Q) (fun _ => Q) (kBody E 21 n [.b, .b, .b, .b, .a, .b, .a, .a] g s89 K) := by
  obtain ⟨y28, x30, x31⟩ := t
  obtain ⟨A26, c27, e29, rfl, C90⟩ := h
  rw [e21_body0 n]
  unfold pb21_1
  refine Rf.gen fun H Q hH hQ => ?_
  try dsimp only
  refine Rf.ite ?_ ?_
  · refine Rf.elt (r := (rP (rI .i64) (rP (rI .i64) (rP (rI .i64) (rI .i64))))) (C90.sr0 rfl h0) rfl fun x92 i93 o94 c95 r96 h97 => ?_
    obtain ⟨c102, c103, rfl, r104, r105⟩ := rP_elim r96
    obtain rfl := rI_elim r104
    obtain ⟨c106, c107, rfl, r108, r109⟩ := rP_elim r105
    obtain rfl := rI_elim r108
    obtain ⟨c110, c111, rfl, r112, r113⟩ := rP_elim r109
    obtain rfl := rI_elim r112
    obtain rfl := rI_elim r113
    refine Rf.ldI (h97.at 0 rfl) ?_
    refine Rf.ldI (h97.at 1 rfl) ?_
    refine Rf.ldI (h97.at 2 rfl) ?_
    refine Rf.ldI (h97.at 3 rfl) ?_
    refine Rf.new C90 fun s118 (C119 : Cx s0.next [] [] s0 s118 [(s89.next, AObj.box 51 [(Value.int .i64 0), (Value.int .i64 0), (Value.int .i64 0), (Value.int .i64 0)]), (i32, AObj.box 24 [(Value.int .i64 0), (Value.int .i64 0)])] [(On.mk (rI .u8) y28 A26 c27 5 false e29)] []) => ?_
    refine Rf.sto 0 C119 rfl (by simp) rfl fun s121 (C122 : Cx s0.next [] [] s0 s121 [(s89.next, AObj.box 51 [(Value.int .i64 x92.1), (Value.int .i64 x92.2.1), (Value.int .i64 x92.2.2.1), (Value.int .i64 x92.2.2.2)]), (i32, AObj.box 24 [(Value.int .i64 0), (Value.int .i64 0)])] [(On.mk (rI .u8) y28 A26 c27 5 false e29)] []) => ?_
    refine Rf.ldI (C122.at m0 rfl) ?_
    refine Rf.callZ (t32 n (IntKind.wrap .i64 (x92.1 - x30)) St.bare) ?_
    rintro r126 _ s127 rfl
    refine (Rf.asI ?_)
    refine Rf.ldI (C122.at m0 rfl) ?_
    refine Rf.ldI (C122.at m0 rfl) ?_
    refine Rf.ldI (C122.at m0 rfl) ?_
    refine Rf.ldI (C122.at m0 rfl) ?_
    refine Rf.callZ (t32 n (IntKind.wrap .i64 (x92.2.2.1 - x92.2.1)) St.bare) ?_
    rintro r142 _ s143 rfl
    refine (Rf.asI ?_)
    refine Rf.ldI (C122.at m0 rfl) ?_
    refine Rf.newR (r := (rI .i64)) (xs := [r126, (IntKind.wrap .i64 (x92.2.1 - x92.1)), r142, x92.2.2.2]) C122 rfl (many.cons (c := [(Value.int .i64 r126)]) rI_mk (many.cons (c := [(Value.int .i64 (IntKind.wrap .i64 (x92.2.1 - x92.1)))]) rI_mk (many.cons (c := [(Value.int .i64 r142)]) rI_mk (many.cons (c := [(Value.int .i64 x92.2.2.2)]) rI_mk many.nil)))) fun s149 (C150 : Cx s0.next [] [] s0 s149 [(s89.next, AObj.box 51 [(Value.int .i64 x92.1), (Value.int .i64 x92.2.1), (Value.int .i64 x92.2.2.1), (Value.int .i64 x92.2.2.2)]), (i32, AObj.box 24 [(Value.int .i64 0), (Value.int .i64 0)])] [(On.mk (rI .i64) [r126, (IntKind.wrap .i64 (x92.2.1 - x92.1)), r142, x92.2.2.2] (some ⟨s121.next, 0, none⟩) 4 3 false s121.next), (On.mk (rI .u8) y28 A26 c27 5 false e29)] []) => ?_
    refine Rf.loop (Inv := Inv21_2 s0 p0 A0 c0 h0 i32 x31 x92 (some ⟨s121.next, 0, none⟩) s121.next s89.next r126 r142) (Ex := Ex21_2 s0 p0 A0 c0 h0 i32 x31 x92 (some ⟨s121.next, 0, none⟩) s121.next s89.next r126 r142) (x21_2 s0 p0 A0 c0 h0 i32 x31 x92 (some ⟨s121.next, 0, none⟩) s121.next s89.next r126 r142) (fun t g s K Q h => b21_2 n s0 p0 A0 c0 h0 i32 x31 x92 (some ⟨s121.next, 0, none⟩) s121.next s89.next r126 r142 t g s K Q h) n _ _ _ ⟨_, _, _, rfl, (C150.sub (List.Sublist.refl _) (List.Sublist.refl _) (List.Sublist.refl _))⟩ ?_
    intro t243 e g s300 h
    obtain ⟨A238, c239, e241, rfl, rfl, C301⟩ := h
    rw [e21_after1_exit2 n]
    refine Rf.ldI (C301.at m0 rfl) ?_
    subst hH; subst hQ
    exact Rf.leaf fun h => h _ _ _ ⟨rfl, _, _, _, rfl, (C301.sub (List.Sublist.cons _ (List.Sublist.cons_cons _ List.Sublist.slnil)) (List.Sublist.cons _ (List.Sublist.cons_cons _ List.Sublist.slnil)) (List.Sublist.refl _))⟩
  · subst hH; subst hQ
    exact Rf.leaf fun h => h _ _ _ ⟨_, _, _, rfl, rfl, (C90.sub (List.Sublist.refl _) (List.Sublist.refl _) (List.Sublist.refl _))⟩
abbrev P21 (N : Nat) (X : List Nat) (r : ((List Int) × (Int × Int))) (v : Value) (s : St) : Prop := ∃ (A0 : Option Addr) (c0 : Nat) (e0 : Nat), v = (Value.tuple #[(Value.slice A0 (r.1).length c0), (Value.agg #[(Value.int .i64 r.2.1), (Value.int .i64 r.2.2)])]) ∧ (On.mk (rI .u8) r.1 A0 c0 5 false e0).holds N X s
def p21 : Nat → (List (Int × Int × Int × Int)) → Option ((List Int) × (Int × Int))
  | 0, _ => none
  | n + 1, p0 => ((p39 n p0).bind fun r4 => ((if (!(((r4.1 : Int) == 0) && (((r4.2 : Int) == 0) && true))) then (((some (([] : (List Int)), (r4.1, r4.2))))) else ((((((loopP (pb21_1 n p0) n (([] : List Int), 0, 0)).bind fun t312 => (some (t312.1, (0, 0)))))))))))
theorem t21 (k : Nat) (p0 : (List (Int × Int × Int × Int))) (s0 : St) {A0 : Option Addr} {c0 : Nat} (h0 : Sr (rP (rI .i64) (rP (rI .i64) (rP (rI .i64) (rI .i64)))) s0 A0 c0 p0) :
    Rf (p21 k p0) (fun _ => True) (fun r => RtC s0.next [] [] s0 (P21 s0.next [] r)) (acall E k 21 [(Value.slice A0 (p0).length c0)] s0) := by
  cases k with
  | zero => exact Rf.none
  | succ n =>
    rw [e21 n]
    rw [p21]
    refine Rf.gen fun H Q hH hQ => ?_
    have C0 : Cx s0.next [] [] s0 s0 [] [] [] := Cx.start s0
    refine Rf.new C0 fun s1 (C2 : Cx s0.next [] [] s0 s1 [(s0.next, AObj.box 24 [(Value.int .i64 0), (Value.int .i64 0)])] [] []) => ?_
    refine Rf.call0 C2 (t39 n p0 s1 (C2.sr0 rfl h0)) ?_
    rintro r4 _ s5 rfl h8
    have C9 : Cx s0.next [] [] s0 s5 [(s0.next, AObj.box 24 [(Value.int .i64 0), (Value.int .i64 0)])] [] [] := h8 [] (by simp) List.Pairwise.nil
    refine (Rf.asAgg (Rf.unc (Rf.asI (Rf.unc (Rf.asI (Rf.unn ?_))))))
    refine Rf.new C9 fun s10 (C11 : Cx s0.next [] [] s0 s10 [(s5.next, AObj.box 24 [(Value.int .i64 0), (Value.int .i64 0)]), (s0.next, AObj.box 24 [(Value.int .i64 0), (Value.int .i64 0)])] [] []) => ?_
    refine Rf.sto 0 C11 rfl (by simp) rfl fun s13 (C14 : Cx s0.next [] [] s0 s13 [(s5.next, AObj.box 24 [(Value.int .i64 r4.1), (Value.int .i64 r4.2)]), (s0.next, AObj.box 24 [(Value.int .i64 0), (Value.int .i64 0)])] [] []) => ?_
    refine Rf.ldI (C14.at m0 rfl) ?_
    refine Rf.ldI (C14.at m0 rfl) ?_
    refine Rf.ite ?_ ?_
    · refine Rf.ldI (C14.at m0 rfl) ?_
      refine Rf.ldI (C14.at m0 rfl) ?_
      refine Rf.sto 1 C14 rfl (by simp) rfl fun s19 (C20 : Cx s0.next [] [] s0 s19 [(s5.next, AObj.box 24 [(Value.int .i64 r4.1), (Value.int .i64 r4.2)]), (s0.next, AObj.box 24 [(Value.int .i64 r4.1), (Value.int .i64 r4.2)])] [] []) => ?_
      refine Rf.ldI (C20.at m1 rfl) ?_
      refine Rf.ldI (C20.at m1 rfl) ?_
      subst hH; subst hQ
      exact Rf.leaf fun _ => Ev.done (Rf.ret C20 ⟨none, 0, 0, rfl, .inl ⟨rfl, rfl, rfl⟩⟩)
    · have C23 : Cx s0.next [] [] s0 s13 [(s5.next, AObj.box 24 [(Value.int .i64 r4.1), (Value.int .i64 r4.2)]), (s0.next, AObj.box 24 [(Value.int .i64 0), (Value.int .i64 0)])] [(On.mk (rI .u8) ([] : List Int) none 0 5 false 0)] [] := C14.addNil (rI .u8) 5
      refine Rf.loop (Inv := Inv21_1 s0 p0 A0 c0 h0 s0.next) (Ex := Ex21_1 s0 p0 A0 c0 h0 s0.next) (x21_1 s0 p0 A0 c0 h0 s0.next) (fun t g s K Q h => b21_1 n s0 p0 A0 c0 h0 s0.next t g s K Q h) n _ _ _ ⟨_, _, _, rfl, (C23.sub (List.Sublist.cons _ (List.Sublist.cons_cons _ List.Sublist.slnil)) (List.Sublist.refl _) (List.Sublist.refl _))⟩ ?_
      intro t312 e g s369 h
      obtain ⟨A306, c307, e309, rfl, rfl, C370⟩ := h
      rw [e21_after0_exit0 n]
      refine Rf.sto 0 C370 rfl (by simp) rfl fun s371 (C372 : Cx s0.next [] [] s0 s371 [(s0.next, AObj.box 24 [(Value.int .i64 0), (Value.int .i64 0)])] [(On.mk (rI .u8) t312.1 A306 c307 5 false e309)] []) => ?_
      refine Rf.ldI (C372.at m0 rfl) ?_
      refine Rf.ldI (C372.at m0 rfl) ?_
      subst hH; subst hQ
      exact Rf.leaf fun _ => Ev.done (Rf.ret C372 ⟨_, _, _, rfl, C372.own _ m0⟩)
-- 41 "brindlewood/tables.Find$1"
abbrev P41 (N : Nat) (X : List Nat) (r : Bool) (v : Value) (s : St) : Prop := v = (Value.bool r)
def p41 : Nat → (Int × Int × Int × Int) → Int → Option Bool
  | 0, _, _ => none
  | n + 1, p0, p1 => (pj (fun (b13 : Bool) => some b13) (fun J12 => if (decide ((p0.1 : Int) ≤ p1)) then ((J12 (decide ((p1 : Int) < p0.2.1)))) else ((J12 false))))
theorem t41 (k : Nat) (p0 : (Int × Int × Int × Int)) (p1 : Int) (s0 : St) {b1 : Nat} (h1 : s0.get b1 = some (AObj.box 3 [(Value.int .i64 p1)])) (g1 : b1 < s0.next) :
    Rf (p41 k p0 p1) (fun _ => True) (fun r => RtC s0.next [] [] s0 (P41 s0.next [] r)) (acall E k 41 [(Value.agg #[(Value.int .i64 p0.1), (Value.int .i64 p0.2.1), (Value.int .i64 p0.2.2.1), (Value.int .i64 p0.2.2.2)]), (Value.pointer (some ⟨b1, 0, none⟩))] s0) := by
  cases k with
  | zero => exact Rf.none
  | succ n =>
    rw [e41 n]
    rw [p41]
    refine Rf.gen fun H Q hH hQ => ?_
    have C0 : Cx s0.next [] [] s0 s0 [] [] [] := Cx.start s0
    refine Rf.new C0 fun s1 (C2 : Cx s0.next [] [] s0 s1 [(s0.next, AObj.box 51 [(Value.int .i64 p0.1), (Value.int .i64 p0.2.1), (Value.int .i64 p0.2.2.1), (Value.int .i64 p0.2.2.2)])] [] []) => ?_
    refine Rf.pj fun J12 J12' hJ12 hJ12' => ?_
    have J12h : ∀ (b13 : Bool) (_ : Cx s0.next [] [] s0 s1 [] [] []), Rf (J12 b13) H Q (J12' b13) := by
      subst hJ12
      subst hJ12'
      intro b13 C15
      subst hH; subst hQ
      exact Rf.leaf fun _ => Ev.done (Rf.ret C15 rfl)
    clear hJ12 hJ12'
    refine Rf.ldI (C2.at m0 rfl) ?_
    refine Rf.ldI (C2.at0 h1 g1 (by simp) rfl) ?_
    refine Rf.ite ?_ ?_
    · refine Rf.ldI (C2.at0 h1 g1 (by simp) rfl) ?_
      refine Rf.ldI (C2.at m0 rfl) ?_
      exact J12h (decide ((p1 : Int) < p0.2.1)) (C2.sub (List.Sublist.cons _ List.Sublist.slnil) (List.Sublist.refl _) (List.Sublist.refl _))
    · exact J12h false (C2.sub (List.Sublist.cons _ List.Sublist.slnil) (List.Sublist.refl _) (List.Sublist.refl _))
-- 42 "brindlewood/tables.Shadowed$1"
abbrev P42 (N : Nat) (X : List Nat) (r : Bool) (v : Value) (s : St) : Prop := v = (Value.bool r)
def p42 : Nat → (Int × Int × Int × Int) → Int → Option Bool
  | 0, _, _ => none
  | n + 1, p0, p1 => (pj (fun (b13 : Bool) => some b13) (fun J12 => if (decide ((p0.1 : Int) ≤ p1)) then ((J12 (decide ((p1 : Int) < p0.2.1)))) else ((J12 false))))
theorem t42 (k : Nat) (p0 : (Int × Int × Int × Int)) (p1 : Int) (s0 : St) {b1 : Nat} (h1 : s0.get b1 = some (AObj.box 3 [(Value.int .i64 p1)])) (g1 : b1 < s0.next) :
    Rf (p42 k p0 p1) (fun _ => True) (fun r => RtC s0.next [] [] s0 (P42 s0.next [] r)) (acall E k 42 [(Value.agg #[(Value.int .i64 p0.1), (Value.int .i64 p0.2.1), (Value.int .i64 p0.2.2.1), (Value.int .i64 p0.2.2.2)]), (Value.pointer (some ⟨b1, 0, none⟩))] s0) := by
  cases k with
  | zero => exact Rf.none
  | succ n =>
    rw [e42 n]
    rw [p42]
    refine Rf.gen fun H Q hH hQ => ?_
    have C0 : Cx s0.next [] [] s0 s0 [] [] [] := Cx.start s0
    refine Rf.new C0 fun s1 (C2 : Cx s0.next [] [] s0 s1 [(s0.next, AObj.box 51 [(Value.int .i64 p0.1), (Value.int .i64 p0.2.1), (Value.int .i64 p0.2.2.1), (Value.int .i64 p0.2.2.2)])] [] []) => ?_
    refine Rf.pj fun J12 J12' hJ12 hJ12' => ?_
    have J12h : ∀ (b13 : Bool) (_ : Cx s0.next [] [] s0 s1 [] [] []), Rf (J12 b13) H Q (J12' b13) := by
      subst hJ12
      subst hJ12'
      intro b13 C15
      subst hH; subst hQ
      exact Rf.leaf fun _ => Ev.done (Rf.ret C15 rfl)
    clear hJ12 hJ12'
    refine Rf.ldI (C2.at m0 rfl) ?_
    refine Rf.ldI (C2.at0 h1 g1 (by simp) rfl) ?_
    refine Rf.ite ?_ ?_
    · refine Rf.ldI (C2.at0 h1 g1 (by simp) rfl) ?_
      refine Rf.ldI (C2.at m0 rfl) ?_
      exact J12h (decide ((p1 : Int) < p0.2.1)) (C2.sub (List.Sublist.cons _ List.Sublist.slnil) (List.Sublist.refl _) (List.Sublist.refl _))
    · exact J12h false (C2.sub (List.Sublist.cons _ List.Sublist.slnil) (List.Sublist.refl _) (List.Sublist.refl _))
-- 40_41 "slices.IndexFunc[[]brindlewood/api.Catch,brindlewood/api.Catch]"
abbrev Inv40_41_1 (s0 : St) (p0 : (List (Int × Int × Int × Int))) (p2 : Int) (A0 : Option Addr) (c0 : Nat) (b2 : Nat) (h0 : Sr (rP (rI .i64) (rP (rI .i64) (rP (rI .i64) (rI .i64)))) s0 A0 c0 p0) (h2 : s0.get b2 = some (AObj.box 3 [(Value.int .i64 p2)])) (g2 : b2 < s0.next)  (t : Int) (g : Regs) (s : St) : Prop := g = (rg 19 [(0, (Value.slice A0 (p0).length c0)), (1, (Value.func (.func 41) #[] #[(Value.pointer (some ⟨b2, 0, none⟩))])), (7, (Value.int .i64 ((p0).length : Nat))), (8, (Value.int .i64 t))]) ∧ Cx s0.next [] [] s0 s [] [] []
abbrev Ex40_41_1 (s0 : St) (p0 : (List (Int × Int × Int × Int))) (p2 : Int) (A0 : Option Addr) (c0 : Nat) (b2 : Nat) (h0 : Sr (rP (rI .i64) (rP (rI .i64) (rP (rI .i64) (rI .i64)))) s0 A0 c0 p0) (h2 : s0.get b2 = some (AObj.box 3 [(Value.int .i64 p2)])) (g2 : b2 < s0.next)  (t : (Int ⊕ Int)) (e : X) (g : Regs) (s : St) : Prop := match t with
  | (.inl t) => e = .exit 0 ∧ g = (rg 19 [(0, (Value.slice A0 (p0).length c0)), (1, (Value.func (.func 41) #[] #[(Value.pointer (some ⟨b2, 0, none⟩))])), (7, (Value.int .i64 ((p0).length : Nat))), (8, (Value.int .i64 t)), (9, (Value.bool false))]) ∧ Cx s0.next [] [] s0 s [] [] []
  | (.inr t) => e = .ret ∧ g = (rg 19 [(4, (Value.int .i64 t))]) ∧ Cx s0.next [] [] s0 s [] [] []
theorem x40_41_1 (s0 : St) (p0 : (List (Int × Int × Int × Int))) (p2 : Int) (A0 : Option Addr) (c0 : Nat) (b2 : Nat) (h0 : Sr (rP (rI .i64) (rP (rI .i64) (rP (rI .i64) (rI .i64)))) s0 A0 c0 p0) (h2 : s0.get b2 = some (AObj.box 3 [(Value.int .i64 p2)])) (g2 : b2 < s0.next)  (t : (Int ⊕ Int)) (e : X) (g : Regs) (s : St) (h : Ex40_41_1 s0 p0 p2 A0 c0 b2 h0 h2 g2  t e g s) : e ≠ .normal := by
  rcases t with t | t
  · obtain ⟨h, _⟩ := h
    rw [h]; intro hh; cases hh
  · obtain ⟨h, _⟩ := h
    rw [h]; intro hh; cases hh
def pb40_41_1 (n : Nat) (p0 : (List (Int × Int × Int × Int))) (p2 : Int) (t : Int) : Option (Int ⊕ (Int ⊕ Int)) :=
  (if (decide ((t : Int) < ((p0).length : Nat))) then (((rd p0 t (fun x25 => (p41 n (x25.1, x25.2.1, x25.2.2.1, x25.2.2.2) p2).bind fun r51 => (if r51 then ((((some (.inr (.inr t)))))) else (((some (.inl (IntKind.wrap .i64 (t + 1))))))))))) else (((some (.inr (.inl t))))))
theorem b40_41_1 (n : Nat) (s0 : St) (p0 : (List (Int × Int × Int × Int))) (p2 : Int) (A0 : Option Addr) (c0 : Nat) (b2 : Nat) (h0 : Sr (rP (rI .i64) (rP (rI .i64) (rP (rI .i64) (rI .i64)))) s0 A0 c0 p0) (h2 : s0.get b2 = some (AObj.box 3 [(Value.int .i64 p2)])) (g2 : b2 < s0.next)  (x1 : Int) (g : Regs) (s22 : St) (K : Kont) (Q : Out → St → Prop) (h : Inv40_41_1 s0 p0 p2 A0 c0 b2 h0 h2 g2  x1 g s22) :
    Rf (pb40_41_1 n p0 p2 x1) (fun r => ∀ e g' s', LK (Inv40_41_1 s0 p0 p2 A0 c0 b2 h0 h2 g2 ) (Ex40_41_1 s0 p0 p2 A0 c0 b2 h0 h2 g2 ) r e g' s' → Ev (K e g' s') Q) (fun _ => Q) (kBody E 40 n [.b, .a, .b, .a, .a] g s22 K) := by
  obtain ⟨rfl, C23⟩ := h
  rw [e40_41_body0 n]
  unfold pb40_41_1
  refine Rf.gen fun H Q hH hQ => ?_
  refine Rf.ite ?_ ?_
  · refine Rf.elt (r := (rP (rI .i64) (rP (rI .i64) (rP (rI .i64) (rI .i64))))) (C23.sr0 rfl h0) rfl fun x25 i26 o27 c28 r29 h30 => ?_
    obtain ⟨c35, c36, rfl, r37, r38⟩ := rP_elim r29
    obtain rfl := rI_elim r37
    obtain ⟨c39, c40, rfl, r41, r42⟩ := rP_elim r38
    obtain rfl := rI_elim r41
    obtain ⟨c43, c44, rfl, r45, r46⟩ := rP_elim r42
    obtain rfl := rI_elim r45
    obtain rfl := rI_elim r46
    refine Rf.ldI (h30.at 0 rfl) ?_
    refine Rf.ldI (h30.at 1 rfl) ?_
    refine Rf.ldI (h30.at 2 rfl) ?_
    refine Rf.ldI (h30.at 3 rfl) ?_
    refine Rf.call0 C23 (t41 n (x25.1, x25.2.1, x25.2.2.1, x25.2.2.2) p2 s22 (C23.get0 h2 g2 (by simp)) (C23.lt0 g2)) ?_
    rintro r51 _ s52 rfl h54
    have C55 : Cx s0.next [] [] s0 s52 [] [] [] := h54 [] (by simp) List.Pairwise.nil
    refine (Rf.asB ?_)
    refine Rf.ite ?_ ?_
    · subst hH; subst hQ
      exact Rf.leaf fun h => h _ _ _ ⟨rfl, rfl, (C55.sub (List.Sublist.refl _) (List.Sublist.refl _) (List.Sublist.refl _))⟩
    · subst hH; subst hQ
      exact Rf.leaf fun h => h _ _ _ ⟨rfl, rfl, (C55.sub (List.Sublist.refl _) (List.Sublist.refl _) (List.Sublist.refl _))⟩
  · subst hH; subst hQ
    exact Rf.leaf fun h => h _ _ _ ⟨rfl, rfl, (C23.sub (List.Sublist.refl _) (List.Sublist.refl _) (List.Sublist.refl _))⟩
abbrev P40_41 (N : Nat) (X : List Nat) (r : Int) (v : Value) (s : St) : Prop := v = (Value.int .i64 r)
def p40_41 : Nat → (List (Int × Int × Int × Int)) → Int → Option Int
  | 0, _, _ => none
  | n + 1, p0, p2 => (((loopP (pb40_41_1 n p0 p2) n 0).bind fun t103 => match t103 with | (.inl t58) => ((some (-1))) | (.inr t81) => (some t81)))
theorem t40_41 (k : Nat) (p0 : (List (Int × Int × Int × Int))) (p2 : Int) (s0 : St) {A0 : Option Addr} {c0 : Nat} {b2 : Nat} (h0 : Sr (rP (rI .i64) (rP (rI .i64) (rP (rI .i64) (rI .i64)))) s0 A0 c0 p0) (h2 : s0.get b2 = some (AObj.box 3 [(Value.int .i64 p2)])) (g2 : b2 < s0.next) :
    Rf (p40_41 k p0 p2) (fun _ => True) (fun r => RtC s0.next [] [] s0 (P40_41 s0.next [] r)) (acall E k 40 [(Value.slice A0 (p0).length c0), (Value.func (.func 41) #[] #[(Value.pointer (some ⟨b2, 0, none⟩))])] s0) := by
  cases k with
  | zero => exact Rf.none
  | succ n =>
    rw [e40_41 n]
    rw [p40_41]
    refine Rf.gen fun H Q hH hQ => ?_
    have C0 : Cx s0.next [] [] s0 s0 [] [] [] := Cx.start s0
    refine Rf.loop (Inv := Inv40_41_1 s0 p0 p2 A0 c0 b2 h0 h2 g2 ) (Ex := Ex40_41_1 s0 p0 p2 A0 c0 b2 h0 h2 g2 ) (x40_41_1 s0 p0 p2 A0 c0 b2 h0 h2 g2 ) (fun t g s K Q h => b40_41_1 n s0 p0 p2 A0 c0 b2 h0 h2 g2  t g s K Q h) n _ _ _ ⟨rfl, (C0.sub (List.Sublist.refl _) (List.Sublist.refl _) (List.Sublist.refl _))⟩ ?_
    intro t e g s h
    rcases t with t58 | t81
    · generalize s = s79 at h ⊢
      obtain ⟨rfl, rfl, C80⟩ := h
      rw [e40_41_after0_exit0 n]
      subst hH; subst hQ
      exact Rf.leaf fun _ => Ev.done (Rf.ret C80 rfl)
    · generalize s = s101 at h ⊢
      obtain ⟨rfl, rfl, C102⟩ := h
      rw [e40_41_after0_ret n]
      subst hH; subst hQ
      exact Rf.leaf fun _ => Ev.done (Rf.ret C102 rfl)
-- 40_42 "slices.IndexFunc[[]brindlewood/api.Catch,brindlewood/api.Catch]"
abbrev Inv40_42_1 (s0 : St) (p0 : (List (Int × Int × Int × Int))) (p2 : Int) (A0 : Option Addr) (c0 : Nat) (b2 : Nat) (h0 : Sr (rP (rI .i64) (rP (rI .i64) (rP (rI .i64) (rI .i64)))) s0 A0 c0 p0) (h2 : s0.get b2 = some (AObj.box 3 [(Value.int .i64 p2)])) (g2 : b2 < s0.next)  (t : Int) (g : Regs) (s : St) : Prop := g = (rg 19 [(0, (Value.slice A0 (p0).length c0)), (1, (Value.func (.func 42) #[] #[(Value.pointer (some ⟨b2, 0, none⟩))])), (7, (Value.int .i64 ((p0).length : Nat))), (8, (Value.int .i64 t))]) ∧ Cx s0.next [] [] s0 s [] [] []
abbrev Ex40_42_1 (s0 : St) (p0 : (List (Int × Int × Int × Int))) (p2 : Int) (A0 : Option Addr) (c0 : Nat) (b2 : Nat) (h0 : Sr (rP (rI .i64) (rP (rI .i64) (rP (rI .i64) (rI .i64)))) s0 A0 c0 p0) (h2 : s0.get b2 = some (AObj.box 3 [(Value.int .i64 p2)])) (g2 : b2 < s0.next)  (t : (Int ⊕ Int)) (e : X) (g : Regs) (s : St) : Prop := match t with
  | (.inl t) => e = .exit 0 ∧ g = (rg 19 [(0, (Value.slice A0 (p0).length c0)), (1, (Value.func (.func 42) #[] #[(Value.pointer (some ⟨b2, 0, none⟩))])), (7, (Value.int .i64 ((p0).length : Nat))), (8, (Value.int .i64 t)), (9, (Value.bool false))]) ∧ Cx s0.next [] [] s0 s [] [] []
  | (.inr t) => e = .ret ∧ g = (rg 19 [(4, (Value.int .i64 t))]) ∧ Cx s0.next [] [] s0 s [] [] []
theorem x40_42_1 (s0 : St) (p0 : (List (Int × Int × Int × Int))) (p2 : Int) (A0 : Option Addr) (c0 : Nat) (b2 : Nat) (h0 : Sr (rP (rI .i64) (rP (rI .i64) (rP (rI .i64) (rI .i64)))) s0 A0 c0 p0) (h2 : s0.get b2 = some (AObj.box 3 [(Value.int .i64 p2)])) (g2 : b2 < s0.next)  (t : (Int ⊕ Int)) (e : X) (g : Regs) (s : St) (h : Ex40_42_1 s0 p0 p2 A0 c0 b2 h0 h2 g2  t e g s) : e ≠ .normal := by
  rcases t with t | t
  · obtain ⟨h, _⟩ := h
    rw [h]; intro hh; cases hh
  · obtain ⟨h, _⟩ := h
    rw [h]; intro hh; cases hh
def pb40_42_1 (n : Nat) (p0 : (List (Int × Int × Int × Int))) (p2 : Int) (t : Int) : Option (Int ⊕ (Int ⊕ Int)) :=
  (if (decide ((t : Int) < ((p0).length : Nat))) then (((rd p0 t (fun x25 => (p42 n (x25.1, x25.2.1, x25.2.2.1, x25.2.2.2) p2).bind fun r51 => (if r51 then ((((some (.inr (.inr t)))))) else (((some (.inl (IntKind.wrap .i64 (t + 1))))))))))) else (((some (.inr (.inl t))))))
theorem b40_42_1 (n : Nat) (s0 : St) (p0 : (List (Int × Int × Int × Int))) (p2 : Int) (A0 : Option Addr) (c0 : Nat) (b2 : Nat) (h0 : Sr (rP (rI .i64) (rP (rI .i64) (rP (rI .i64) (rI .i64)))) s0 A0 c0 p0) (h2 : s0.get b2 = some (AObj.box 3 [(Value.int .i64 p2)])) (g2 : b2 < s0.next)  (x1 : Int) (g : Regs) (s22 : St) (K : Kont) (Q : Out → St → Prop) (h : Inv40_42_1 s0 p0 p2 A0 c0 b2 h0 h2 g2  x1 g s22) :
    Rf (pb40_42_1 n p0 p2 x1) (fun r => ∀ e g' s', LK (Inv40_42_1 s0 p0 p2 A0 c0 b2 h0 h2 g2 ) (Ex40_42_1 s0 p0 p2 A0 c0 b2 h0 h2 g2 ) r e g' s' → Ev (K e g' s') Q) (fun _ => Q) (kBody E 40 n [.b, .a, .b, .a, .a] g s22 K) := by
  obtain ⟨rfl, C23⟩ := h
  rw [e40_42_body0 n]
  unfold pb40_42_1
  refine Rf.gen fun H Q hH hQ => ?_
  refine Rf.ite ?_ ?_
  · refine Rf.elt (r := (rP (rI .i64) (rP (rI .i64) (rP (rI .i64) (rI .i64))))) (C23.sr0 rfl h0) rfl fun x25 i26 o27 c28 r29 h30 => ?_
    obtain ⟨c35, c36, rfl, r37, r38⟩ := rP_elim r29
    obtain rfl := rI_elim r37
    obtain ⟨c39, c40, rfl, r41, r42⟩ := rP_elim r38
    obtain rfl := rI_elim r41
    obtain ⟨c43, c44, rfl, r45, r46⟩ := rP_elim r42
    obtain rfl := rI_elim r45
    obtain rfl := rI_elim r46
    refine Rf.ldI (h30.at 0 rfl) ?_
    refine Rf.ldI (h30.at 1 rfl) ?_
    refine Rf.ldI (h30.at 2 rfl) ?_
    refine Rf.ldI (h30.at 3 rfl) ?_
    refine Rf.call0 C23 (t42 n (x25.1, x25.2.1, x25.2.2.1, x25.2.2.2) p2 s22 (C23.get0 h2 g2 (by simp)) (C23.lt0 g2)) ?_
    rintro r51 _ s52 rfl h54
    have C55 : Cx s0.next [] [] s0 s52 [] [] [] := h54 [] (by simp) List.Pairwise.nil
    refine (Rf.asB ?_)
    refine Rf.ite ?_ ?_
    · subst hH; subst hQ
      exact Rf.leaf fun h => h _ _ _ ⟨rfl, rfl, (C55.sub (List.Sublist.refl _) (List.Sublist.refl _) (List.Sublist.refl _))⟩
    · subst hH; subst hQ
      exact Rf.leaf fun h => h _ _ _ ⟨rfl, rfl, (C55.sub (List.Sublist.refl _) (List.Sublist.refl _) (List.Sublist.refl _))⟩
  · subst hH; subst hQ
    exact Rf.leaf fun h => h _ _ _ ⟨rfl, rfl, (C23.sub (List.Sublist.refl _) (List.Sublist.refl _) (List.Sublist.refl _))⟩
abbrev P40_42 (N : Nat) (X : List Nat) (r : Int) (v : Value) (s : St) : Prop := v = (Value.int .i64 r)
def p40_42 : Nat → (List (Int × Int × Int × Int)) → Int → Option Int
  | 0, _, _ => none
  | n + 1, p0, p2 => (((loopP (pb40_42_1 n p0 p2) n 0).bind fun t103 => match t103 with | (.inl t58) => ((some (-1))) | (.inr t81) => (some t81)))
theorem t40_42 (k : Nat) (p0 : (List (Int × Int × Int × Int))) (p2 : Int) (s0 : St) {A0 : Option Addr} {c0 : Nat} {b2 : Nat} (h0 : Sr (rP (rI .i64) (rP (rI .i64) (rP (rI .i64) (rI .i64)))) s0 A0 c0 p0) (h2 : s0.get b2 = some (AObj.box 3 [(Value.int .i64 p2)])) (g2 : b2 < s0.next) :
    Rf (p40_42 k p0 p2) (fun _ => True) (fun r => RtC s0.next [] [] s0 (P40_42 s0.next [] r)) (acall E k 40 [(Value.slice A0 (p0).length c0), (Value.func (.func 42) #[] #[(Value.pointer (some ⟨b2, 0, none⟩))])] s0) := by
  cases k with
  | zero => exact Rf.none
  | succ n =>
    rw [e40_42 n]
    rw [p40_42]
    refine Rf.gen fun H Q hH hQ => ?_
    have C0 : Cx s0.next [] [] s0 s0 [] [] [] := Cx.start s0
    refine Rf.loop (Inv := Inv40_42_1 s0 p0 p2 A0 c0 b2 h0 h2 g2 ) (Ex := Ex40_42_1 s0 p0 p2 A0 c0 b2 h0 h2 g2 ) (x40_42_1 s0 p0 p2 A0 c0 b2 h0 h2 g2 ) (fun t g s K Q h => b40_42_1 n s0 p0 p2 A0 c0 b2 h0 h2 g2  t g s K Q h) n _ _ _ ⟨rfl, (C0.sub (List.Sublist.refl _) (List.Sublist.refl _) (List.Sublist.refl _))⟩ ?_
    intro t e g s h
    rcases t with t58 | t81
    · generalize s = s79 at h ⊢
      obtain ⟨rfl, rfl, C80⟩ := h
      rw [e40_42_after0_exit0 n]
      subst hH; subst hQ
      exact Rf.leaf fun _ => Ev.done (Rf.ret C80 rfl)
    · generalize s = s101 at h ⊢
      obtain ⟨rfl, rfl, C102⟩ := h
      rw [e40_42_after0_ret n]
      subst hH; subst hQ
      exact Rf.leaf fun _ => Ev.done (Rf.ret C102 rfl)
-- 22 "brindlewood/tables.Find"
abbrev P22 (N : Nat) (X : List Nat) (r : (Int × (Int × Int))) (v : Value) (s : St) : Prop := v = (Value.tuple #[(Value.int .i64 r.1), (Value.agg #[(Value.int .i64 r.2.1), (Value.int .i64 r.2.2)])])
def p22 : Nat → (List (Int × Int × Int × Int)) → Int → Option (Int × (Int × Int))
  | 0, _, _ => none
  | n + 1, p0, p1 => ((p39 n p0).bind fun r7 => ((if (!(((r7.1 : Int) == 0) && (((r7.2 : Int) == 0) && true))) then (((some (0, (r7.1, r7.2))))) else (((p40_41 n p0 p1).bind fun r26 => (some (r26, (0, 0))))))))
theorem t22 (k : Nat) (p0 : (List (Int × Int × Int × Int))) (p1 : Int) (s0 : St) {A0 : Option Addr} {c0 : Nat} (h0 : Sr (rP (rI .i64) (rP (rI .i64) (rP (rI .i64) (rI .i64)))) s0 A0 c0 p0) :
    Rf (p22 k p0 p1) (fun _ => True) (fun r => RtC s0.next [] [] s0 (P22 s0.next [] r)) (acall E k 22 [(Value.slice A0 (p0).length c0), (Value.int .i64 p1)] s0) := by
  cases k with
  | zero => exact Rf.none
  | succ n =>
    rw [e22 n]
    rw [p22]
    refine Rf.gen fun H Q hH hQ => ?_
    have C0 : Cx s0.next [] [] s0 s0 [] [] [] := Cx.start s0
    refine Rf.new C0 fun s1 (C2 : Cx s0.next [] [] s0 s1 [(s0.next, AObj.box 3 [(Value.int .i64 p1)])] [] []) => ?_
    refine Rf.new C2 fun s4 (C5 : Cx s0.next [] [] s0 s4 [(s1.next, AObj.box 24 [(Value.int .i64 0), (Value.int .i64 0)]), (s0.next, AObj.box 3 [(Value.int .i64 p1)])] [] []) => ?_
    refine Rf.call0 C5 (t39 n p0 s4 (C5.sr0 rfl h0)) ?_
    rintro r7 _ s8 rfl h11
    have C12 : Cx s0.next [] [] s0 s8 [(s1.next, AObj.box 24 [(Value.int .i64 0), (Value.int .i64 0)]), (s0.next, AObj.box 3 [(Value.int .i64 p1)])] [] [] := h11 [] (by simp) List.Pairwise.nil
    refine (Rf.asAgg (Rf.unc (Rf.asI (Rf.unc (Rf.asI (Rf.unn ?_))))))
    refine Rf.new C12 fun s13 (C14 : Cx s0.next [] [] s0 s13 [(s8.next, AObj.box 24 [(Value.int .i64 0), (Value.int .i64 0)]), (s1.next, AObj.box 24 [(Value.int .i64 0), (Value.int .i64 0)]), (s0.next, AObj.box 3 [(Value.int .i64 p1)])] [] []) => ?_
    refine Rf.sto 0 C14 rfl (by simp) rfl fun s16 (C17 : Cx s0.next [] [] s0 s16 [(s8.next, AObj.box 24 [(Value.int .i64 r7.1), (Value.int .i64 r7.2)]), (s1.next, AObj.box 24 [(Value.int .i64 0), (Value.int .i64 0)]), (s0.next, AObj.box 3 [(Value.int .i64 p1)])] [] []) => ?_
    refine Rf.ldI (C17.at m0 rfl) ?_
    refine Rf.ldI (C17.at m0 rfl) ?_
    refine Rf.ite ?_ ?_
    · refine Rf.ldI (C17.at m0 rfl) ?_
      refine Rf.ldI (C17.at m0 rfl) ?_
      refine Rf.sto 1 C17 rfl (by simp) rfl fun s22 (C23 : Cx s0.next [] [] s0 s22 [(s8.next, AObj.box 24 [(Value.int .i64 r7.1), (Value.int .i64 r7.2)]), (s1.next, AObj.box 24 [(Value.int .i64 r7.1), (Value.int .i64 r7.2)]), (s0.next, AObj.box 3 [(Value.int .i64 p1)])] [] []) => ?_
      refine Rf.ldI (C23.at m1 rfl) ?_
      refine Rf.ldI (C23.at m1 rfl) ?_
      subst hH; subst hQ
      exact Rf.leaf fun _ => Ev.done (Rf.ret C23 rfl)
    · refine Rf.call0 C17 (t40_41 n p0 p1 s16 (C17.sr0 rfl h0) (C17.obj _ m2).1 (C17.obj _ m2).2.1) ?_
      rintro r26 _ s27 rfl h29
      have C30 : Cx s0.next [] [] s0 s27 [(s8.next, AObj.box 24 [(Value.int .i64 r7.1), (Value.int .i64 r7.2)]), (s1.next, AObj.box 24 [(Value.int .i64 0), (Value.int .i64 0)]), (s0.next, AObj.box 3 [(Value.int .i64 p1)])] [] [] := h29 [] (by simp) List.Pairwise.nil
      refine (Rf.asI ?_)
      refine Rf.sto 1 C30 rfl (by simp) rfl fun s31 (C32 : Cx s0.next [] [] s0 s31 [(s8.next, AObj.box 24 [(Value.int .i64 r7.1), (Value.int .i64 r7.2)]), (s1.next, AObj.box 24 [(Value.int .i64 0), (Value.int .i64 0)]), (s0.next, AObj.box 3 [(Value.int .i64 p1)])] [] []) => ?_
      refine Rf.ldI (C32.at m1 rfl) ?_
      refine Rf.ldI (C32.at m1 rfl) ?_
      subst hH; subst hQ
      exact Rf.leaf fun _ => Ev.done (Rf.ret C32 rfl)
-- 23 "brindlewood/tables.Shadowed"
abbrev Inv23_2 (s0 : St) (p0 : (List (Int × Int × Int × Int))) (A0 : Option Addr) (c0 : Nat) (h0 : Sr (rP (rI .i64) (rP (rI .i64) (rP (rI .i64) (rI .i64)))) s0 A0 c0 p0) (A26 : Option Addr) (c27 : Nat) (e29 : Nat) (i31 : Nat) (x30 : Int) (x92 : (Int × Int × Int × Int)) (y28 : (List Int)) (i133 : Nat) (i134 : Nat) (t : (Int × Bool)) (g : Regs) (s : St) : Prop := ∃ (w195 : Value) (w196 : Value), g = (rg 57 [(0, (Value.slice A0 (p0).length c0)), (3, (Value.pointer (some ⟨i31, 0, none⟩))), (5, (Value.slice A26 (y28).length c27)), (6, (Value.int .i64 x30)), (7, (Value.pointer (some ⟨i134, 0, none⟩))), (8, (Value.pointer (some ⟨i133, 0, none⟩))), (9, (Value.bool t.2)), (10, w195), (17, (Value.slice A0 (p0).length c0)), (18, (Value.int .i64 ((p0).length : Nat))), (19, (Value.int .i64 x30)), (40, w196)]) ∧ Cx s0.next [] [] s0 s [(i133, AObj.box 3 [(Value.int .i64 t.1)]), (i134, AObj.box 51 [(Value.int .i64 x92.1), (Value.int .i64 x92.2.1), (Value.int .i64 x92.2.2.1), (Value.int .i64 x92.2.2.2)]), (i31, AObj.box 24 [(Value.int .i64 0), (Value.int .i64 0)])] [(On.mk (rI .i64) y28 A26 c27 3 false e29)] []
abbrev Ex23_2 (s0 : St) (p0 : (List (Int × Int × Int × Int))) (A0 : Option Addr) (c0 : Nat) (h0 : Sr (rP (rI .i64) (rP (rI .i64) (rP (rI .i64) (rI .i64)))) s0 A0 c0 p0) (A26 : Option Addr) (c27 : Nat) (e29 : Nat) (i31 : Nat) (x30 : Int) (x92 : (Int × Int × Int × Int)) (y28 : (List Int)) (i133 : Nat) (i134 : Nat) (t : Int) (e : X) (g : Regs) (s : St) : Prop := e = .exit 2 ∧ g = (rg 57 [(0, (Value.slice A0 (p0).length c0)), (3, (Value.pointer (some ⟨i31, 0, none⟩))), (5, (Value.slice A26 (y28).length c27)), (6, (Value.int .i64 x30)), (7, (Value.pointer (some ⟨i134, 0, none⟩))), (8, (Value.pointer (some ⟨i133, 0, none⟩))), (17, (Value.slice A0 (p0).length c0)), (18, (Value.int .i64 ((p0).length : Nat))), (19, (Value.int .i64 x30)), (32, (Value.bool false))]) ∧ Cx s0.next [] [] s0 s [(i133, AObj.box 3 [(Value.int .i64 t)]), (i134, AObj.box 51 [(Value.int .i64 x92.1), (Value.int .i64 x92.2.1), (Value.int .i64 x92.2.2.1), (Value.int .i64 x92.2.2.2)]), (i31, AObj.box 24 [(Value.int .i64 0), (Value.int .i64 0)])] [(On.mk (rI .i64) y28 A26 c27 3 false e29)] []
theorem x23_2 (s0 : St) (p0 : (List (Int × Int × Int × Int))) (A0 : Option Addr) (c0 : Nat) (h0 : Sr (rP (rI .i64) (rP (rI .i64) (rP (rI .i64) (rI .i64)))) s0 A0 c0 p0) (A26 : Option Addr) (c27 : Nat) (e29 : Nat) (i31 : Nat) (x30 : Int) (x92 : (Int × Int × Int × Int)) (y28 : (List Int)) (i133 : Nat) (i134 : Nat) (t : Int) (e : X) (g : Regs) (s : St) (h : Ex23_2 s0 p0 A0 c0 h0 A26 c27 e29 i31 x30 x92 y28 i133 i134 t e g s) : e ≠ .normal := by
  obtain ⟨h, _⟩ := h
  rw [h]; intro hh; cases hh
def pb23_2 (n : Nat) (p0 : (List (Int × Int × Int × Int))) (x30 : Int) (x92 : (Int × Int × Int × Int)) (t : (Int × Bool)) : Option ((Int × Bool) ⊕ Int) :=
  pj (fun (b202 : Bool) => if b202 then ((slP p0 0 x30 (fun y209 => (p40_42 n y209 t.1).bind fun r212 => (((if (decide ((r212 : Int) ≥ 0)) then (rd p0 r212 (fun x217 => (some (.inl (x217.2.1, (decide ((r212 : Int) ≥ 0))))))) else ((some (.inl (t.1, (decide ((r212 : Int) ≥ 0)))))))))))) else (((some (.inr t.1))))) (fun J201 => if t.2 then ((J201 (decide ((t.1 : Int) < x92.2.1)))) else ((J201 false)))
theorem b23_2 (n : Nat) (s0 : St) (p0 : (List (Int × Int × Int × Int))) (A0 : Option Addr) (c0 : Nat) (h0 : Sr (rP (rI .i64) (rP (rI .i64) (rP (rI .i64) (rI .i64)))) s0 A0 c0 p0) (A26 : Option Addr) (c27 : Nat) (e29 : Nat) (i31 : Nat) (x30 : Int) (x92 : (Int × Int × Int × Int)) (y28 : (List Int)) (i133 : Nat) (i134 : Nat) (t : (Int × Bool)) (g : Regs) (s192 : St) (K : Kont) (Q : Out → St → Prop) (h : Inv23_2 s0 p0 A0 c0 h0 A26 c27 e29 i31 x30 x92 y28 i133 i134 t g s192) :
    Rf (pb23_2 n p0 x30 x92 t) (fun r => ∀ e g' s', LK (Inv23_2 s0 p0 A0 c0 h0 A26 c27 e29 i31 x30 x92 y28 i133 i134) (Ex23_2 s0 p0 A0 c0 h0 A26 c27 e29 i31 x30 x92 y28 i133 i134) r e g' s' → Ev (K e g' s') Q) (fun _ => Q) (kBody E 23 n [.b, .b, .b, .a, .b, .a, .a, .b, .b, .a, .a, .b, .b, .a, .b, .a, .a] g s192 K) := by
  obtain ⟨x131, b132⟩ := t
  obtain ⟨w195, w196, rfl, C193⟩ := h
  rw [e23_body1 n]
  unfold pb23_2
  refine Rf.gen fun H Q hH hQ => ?_
  try dsimp only
  refine Rf.pj fun J201 J201' hJ201 hJ201' => ?_
  have J201h : ∀ (b202 : Bool) (_ : Cx s0.next [] [] s0 s192 [(i133, AObj.box 3 [(Value.int .i64 x131)]), (i134, AObj.box 51 [(Value.int .i64 x92.1), (Value.int .i64 x92.2.1), (Value.int .i64 x92.2.2.1), (Value.int .i64 x92.2.2.2)]), (i31, AObj.box 24 [(Value.int .i64 0), (Value.int .i64 0)])] [(On.mk (rI .i64) y28 A26 c27 3 false e29)] []), Rf (J201 b202) H Q (J201' b202) := by
    subst hJ201
    subst hJ201'
    intro b202 C204
    refine Rf.ite ?_ ?_
    · refine Rf.ksl (r := (rP (rI .i64) (rP (rI .i64) (rP (rI .i64) (rI .i64))))) u47 (by kernel_rfl) (C204.sr0 rfl h0) rfl rfl fun y209 A205 c206 h207 => ?_
      have C210 := C204.add (Fa.sr (rP (rI .i64) (rP (rI .i64) (rP (rI .i64) (rI .i64)))) A205 c206 y209) h207
      refine Rf.call0 C210 (t40_42 n y209 x131 s192 (C210.srG m0) (C210.obj _ m0).1 (C210.obj _ m0).2.1) ?_
      rintro r212 _ s213 rfl h215
      have C216 : Cx s0.next [] [] s0 s213 [(i133, AObj.box 3 [(Value.int .i64 x131)]), (i134, AObj.box 51 [(Value.int .i64 x92.1), (Value.int .i64 x92.2.1), (Value.int .i64 x92.2.2.1), (Value.int .i64 x92.2.2.2)]), (i31, AObj.box 24 [(Value.int .i64 0), (Value.int .i64 0)])] [(On.mk (rI .i64) y28 A26 c27 3 false e29)] [(Fa.sr (rP (rI .i64) (rP (rI .i64) (rP (rI .i64) (rI .i64)))) A205 c206 y209)] := h215 [] (by simp) List.Pairwise.nil
      refine (Rf.asI ?_)
      refine Rf.ite ?_ ?_
      · refine Rf.elt (r := (rP (rI .i64) (rP (rI .i64) (rP (rI .i64) (rI .i64))))) (C216.sr0 rfl h0) rfl fun x217 i218 o219 c220 r221 h222 => ?_
        obtain ⟨c227, c228, rfl, r229, r230⟩ := rP_elim r221
        obtain rfl := rI_elim r229
        obtain ⟨c231, c232, rfl, r233, r234⟩ := rP_elim r230
        obtain rfl := rI_elim r233
        obtain ⟨c235, c236, rfl, r237, r238⟩ := rP_elim r234
        obtain rfl := rI_elim r237
        obtain rfl := rI_elim r238
        refine Rf.ldI (h222.at 1 rfl) ?_
        refine Rf.sto 0 C216 rfl (by simp) rfl fun s242 (C243 : Cx s0.next [] [] s0 s242 [(i133, AObj.box 3 [(Value.int .i64 x217.2.1)]), (i134, AObj.box 51 [(Value.int .i64 x92.1), (Value.int .i64 x92.2.1), (Value.int .i64 x92.2.2.1), (Value.int .i64 x92.2.2.2)]), (i31, AObj.box 24 [(Value.int .i64 0), (Value.int .i64 0)])] [(On.mk (rI .i64) y28 A26 c27 3 false e29)] [(Fa.sr (rP (rI .i64) (rP (rI .i64) (rP (rI .i64) (rI .i64)))) A205 c206 y209)]) => ?_
        subst hH; subst hQ
        exact Rf.leaf fun h => h _ _ _ ⟨rfl, _, _, rfl, (C243.sub (List.Sublist.refl _) (List.Sublist.refl _) (List.Sublist.cons _ List.Sublist.slnil))⟩
      · subst hH; subst hQ
        exact Rf.leaf fun h => h _ _ _ ⟨rfl, _, _, rfl, (C216.sub (List.Sublist.refl _) (List.Sublist.refl _) (List.Sublist.cons _ List.Sublist.slnil))⟩
    · subst hH; subst hQ
      exact Rf.leaf fun h => h _ _ _ ⟨rfl, rfl, (C204.sub (List.Sublist.refl _) (List.Sublist.refl _) (List.Sublist.refl _))⟩
  clear hJ201 hJ201'
  refine Rf.ite ?_ ?_
  · refine Rf.ldI (C193.at m0 rfl) ?_
    refine Rf.ldI (C193.at m1 rfl) ?_
    exact J201h (decide ((x131 : Int) < x92.2.1)) (C193.sub (List.Sublist.refl _) (List.Sublist.refl _) (List.Sublist.refl _))
  · exact J201h false (C193.sub (List.Sublist.refl _) (List.Sublist.refl _) (List.Sublist.refl _))
abbrev Inv23_1 (s0 : St) (p0 : (List (Int × Int × Int × Int))) (A0 : Option Addr) (c0 : Nat) (h0 : Sr (rP (rI .i64) (rP (rI .i64) (rP (rI .i64) (rI .i64)))) s0 A0 c0 p0) (i31 : Nat) (t : ((List Int) × Int)) (g : Regs) (s : St) : Prop := ∃ (A26 : Option Addr) (c27 : Nat) (e29 : Nat), g = (rg 57 [(0, (Value.slice A0 (p0).length c0)), (3, (Value.pointer (some ⟨i31, 0, none⟩))), (5, (Value.slice A26 (t.1).length c27)), (17, (Value.slice A0 (p0).length c0)), (18, (Value.int .i64 ((p0).length : Nat))), (19, (Value.int .i64 t.2))]) ∧ Cx s0.next [] [] s0 s [(i31, AObj.box 24 [(Value.int .i64 0), (Value.int .i64 0)])] [(On.mk (rI .i64) t.1 A26 c27 3 false e29)] []
abbrev Ex23_1 (s0 : St) (p0 : (List (Int × Int × Int × Int))) (A0 : Option Addr) (c0 : Nat) (h0 : Sr (rP (rI .i64) (rP (rI .i64) (rP (rI .i64) (rI .i64)))) s0 A0 c0 p0) (i31 : Nat) (t : ((List Int) × Int)) (e : X) (g : Regs) (s : St) : Prop := ∃ (A322 : Option Addr) (c323 : Nat) (e325 : Nat), e = .exit 0 ∧ g = (rg 57 [(0, (Value.slice A0 (p0).length c0)), (3, (Value.pointer (some ⟨i31, 0, none⟩))), (5, (Value.slice A322 (t.1).length c323)), (17, (Value.slice A0 (p0).length c0)), (18, (Value.int .i64 ((p0).length : Nat))), (19, (Value.int .i64 t.2)), (20, (Value.bool false))]) ∧ Cx s0.next [] [] s0 s [(i31, AObj.box 24 [(Value.int .i64 0), (Value.int .i64 0)])] [(On.mk (rI .i64) t.1 A322 c323 3 false e325)] []
theorem x23_1 (s0 : St) (p0 : (List (Int × Int × Int × Int))) (A0 : Option Addr) (c0 : Nat) (h0 : Sr (rP (rI .i64) (rP (rI .i64) (rP (rI .i64) (rI .i64)))) s0 A0 c0 p0) (i31 : Nat) (t : ((List Int) × Int)) (e : X) (g : Regs) (s : St) (h : Ex23_1 s0 p0 A0 c0 h0 i31 t e g s) : e ≠ .normal := by
  obtain ⟨_, _, _, h, _⟩ := h
  rw [h]; intro hh; cases hh
def pb23_1 (n : Nat) (p0 : (List (Int × Int × Int × Int))) (t : ((List Int) × Int)) : Option (((List Int) × Int) ⊕ ((List Int) × Int)) :=
  (if (decide ((t.2 : Int) < ((p0).length : Nat))) then ((rd p0 t.2 (fun x92 => ((((loopP (pb23_2 n p0 t.2 x92) n (x92.1, true)).bind fun t245 => (if (decide ((t245 : Int) ≥ x92.2.1)) then (apP 8 t.1 [t.2] (fun y315 => (some (.inl ((t.1 ++ [t.2]), (IntKind.wrap .i64 (t.2 + 1))))))) else ((some (.inl (t.1, (IntKind.wrap .i64 (t.2 + 1))))))))))))) else (((some (.inr (t.1, t.2))))))
theorem b23_1 (n : Nat) (s0 : St) (p0 : (List (Int × Int × Int × Int))) (A0 : Option Addr) (c0 : Nat) (h0 : Sr (rP (rI .i64) (rP (rI .i64) (rP (rI .i64) (rI .i64)))) s0 A0 c0 p0) (i31 : Nat) (t : ((List Int) × Int)) (g : Regs) (s89 : St) (K : Kont) (Q : Out → St → Prop) (h : Inv23_1 s0 p0 A0 c0 h0 i31 t g s89) :
    Rf (pb23_1 n p0 t) (fun r => ∀ e g' s', LK (Inv23_1 s0 p0 A0 c0 h0 i31) (Ex23_1 s0 p0 A0 c0 h0 i31) r e g' s' → Ev (K e g' s') Q) (fun _ => Q) (kBody E 23 n [.b, .b, .b, .a, .b, .a, .a] g s89 K) := by
  obtain ⟨y28, x30⟩ := t
  obtain ⟨A26, c27, e29, rfl, C90⟩ := h
  rw [e23_body0 n]
  unfold pb23_1
  refine Rf.gen fun H Q hH hQ => ?_
  try dsimp only
  refine Rf.ite ?_ ?_
  · refine Rf.elt (r := (rP (rI .i64) (rP (rI .i64) (rP (rI .i64) (rI .i64))))) (C90.sr0 rfl h0) rfl fun x92 i93 o94 c95 r96 h97 => ?_
    obtain ⟨c102, c103, rfl, r104, r105⟩ := rP_elim r96
    obtain rfl := rI_elim r104
    obtain ⟨c106, c107, rfl, r108, r109⟩ := rP_elim r105
    obtain rfl := rI_elim r108
    obtain ⟨c110, c111, rfl, r112, r113⟩ := rP_elim r109
    obtain rfl := rI_elim r112
    obtain rfl := rI_elim r113
    refine Rf.ldI (h97.at 0 rfl) ?_
    refine Rf.ldI (h97.at 1 rfl) ?_
    refine Rf.ldI (h97.at 2 rfl) ?_
    refine Rf.ldI (h97.at 3 rfl) ?_
    refine Rf.new C90 fun s118 (C119 : Cx s0.next [] [] s0 s118 [(s89.next, AObj.box 51 [(Value.int .i64 0), (Value.int .i64 0), (Value.int .i64 0), (Value.int .i64 0)]), (i31, AObj.box 24 [(Value.int .i64 0), (Value.int .i64 0)])] [(On.mk (rI .i64) y28 A26 c27 3 false e29)] []) => ?_
    refine Rf.sto 0 C119 rfl (by simp) rfl fun s121 (C122 : Cx s0.next [] [] s0 s121 [(s89.next, AObj.box 51 [(Value.int .i64 x92.1), (Value.int .i64 x92.2.1), (Value.int .i64 x92.2.2.1), (Value.int .i64 x92.2.2.2)]), (i31, AObj.box 24 [(Value.int .i64 0), (Value.int .i64 0)])] [(On.mk (rI .i64) y28 A26 c27 3 false e29)] []) => ?_
    refine Rf.ldI (C122.at m0 rfl) ?_
    refine Rf.new C122 fun s126 (C127 : Cx s0.next [] [] s0 s126 [(s121.next, AObj.box 3 [(Value.int .i64 0)]), (s89.next, AObj.box 51 [(Value.int .i64 x92.1), (Value.int .i64 x92.2.1), (Value.int .i64 x92.2.2.1), (Value.int .i64 x92.2.2.2)]), (i31, AObj.box 24 [(Value.int .i64 0), (Value.int .i64 0)])] [(On.mk (rI .i64) y28 A26 c27 3 false e29)] []) => ?_
    refine Rf.sto 0 C127 rfl (by simp) rfl fun s129 (C130 : Cx s0.next [] [] s0 s129 [(s121.next, AObj.box 3 [(Value.int .i64 x92.1)]), (s89.next, AObj.box 51 [(Value.int .i64 x92.1), (Value.int .i64 x92.2.1), (Value.int .i64 x92.2.2.1), (Value.int .i64 x92.2.2.2)]), (i31, AObj.box 24 [(Value.int .i64 0), (Value.int .i64 0)])] [(On.mk (rI .i64) y28 A26 c27 3 false e29)] []) => ?_
    refine Rf.loop (Inv := Inv23_2 s0 p0 A0 c0 h0 A26 c27 e29 i31 x30 x92 y28 s121.next s89.next) (Ex := Ex23_2 s0 p0 A0 c0 h0 A26 c27 e29 i31 x30 x92 y28 s121.next s89.next) (x23_2 s0 p0 A0 c0 h0 A26 c27 e29 i31 x30 x92 y28 s121.next s89.next) (fun t g s K Q h => b23_2 n s0 p0 A0 c0 h0 A26 c27 e29 i31 x30 x92 y28 s121.next s89.next t g s K Q h) n _ _ _ ⟨_, _, rfl, (C130.sub (List.Sublist.refl _) (List.Sublist.refl _) (List.Sublist.refl _))⟩ ?_
    intro t245 e g s303 h
    obtain ⟨rfl, rfl, C304⟩ := h
    rw [e23_after1_exit2 n]
    refine Rf.ldI (C304.at m0 rfl) ?_
    refine Rf.ldI (C304.at m1 rfl) ?_
    refine Rf.ite ?_ ?_
    · refine Rf.newR (r := (rI .i64)) (xs := [x30]) C304 rfl (many.cons (c := [(Value.int .i64 x30)]) rI_mk many.nil) fun s309 (C310 : Cx s0.next [] [] s0 s309 [(s121.next, AObj.box 3 [(Value.int .i64 t245)]), (s89.next, AObj.box 51 [(Value.int .i64 x92.1), (Value.int .i64 x92.2.1), (Value.int .i64 x92.2.2.1), (Value.int .i64 x92.2.2.2)]), (i31, AObj.box 24 [(Value.int .i64 0), (Value.int .i64 0)])] [(On.mk (rI .i64) [x30] (some ⟨s303.next, 0, none⟩) 1 3 false s303.next), (On.mk (rI .i64) y28 A26 c27 3 false e29)] []) => ?_
      refine Rf.kapp 1 C310 rfl rfl (by decide) (by decide) (Ap.sr u39 rfl (C310.srB m0)) fun A312 c313 e314 s317 (C318 : Cx s0.next [] [] s0 s317 [(s121.next, AObj.box 3 [(Value.int .i64 t245)]), (s89.next, AObj.box 51 [(Value.int .i64 x92.1), (Value.int .i64 x92.2.1), (Value.int .i64 x92.2.2.1), (Value.int .i64 x92.2.2.2)]), (i31, AObj.box 24 [(Value.int .i64 0), (Value.int .i64 0)])] [(On.mk (rI .i64) [x30] (some ⟨s303.next, 0, none⟩) 1 3 false s303.next), (On.mk (rI .i64) (y28 ++ [x30]) A312 c313 3 false e314)] []) => ?_
      have C319 : Cx s0.next [] [] s0 s317 [(s121.next, AObj.box 3 [(Value.int .i64 t245)]), (s89.next, AObj.box 51 [(Value.int .i64 x92.1), (Value.int .i64 x92.2.1), (Value.int .i64 x92.2.2.1), (Value.int .i64 x92.2.2.2)]), (i31, AObj.box 24 [(Value.int .i64 0), (Value.int .i64 0)])] [(On.mk (rI .i64) (y28 ++ [x30]) A312 c313 3 false e314)] [] := C318.sub (List.Sublist.refl _) (List.Sublist.cons _ (List.Sublist.cons_cons _ List.Sublist.slnil)) (List.Sublist.refl _)
      subst hH; subst hQ
      exact Rf.leaf fun h => h _ _ _ ⟨rfl, _, _, _, rfl, (C319.sub (List.Sublist.cons _ (List.Sublist.cons _ (List.Sublist.cons_cons _ List.Sublist.slnil))) (List.Sublist.refl _) (List.Sublist.refl _))⟩
    · subst hH; subst hQ
      exact Rf.leaf fun h => h _ _ _ ⟨rfl, _, _, _, rfl, (C304.sub (List.Sublist.cons _ (List.Sublist.cons _ (List.Sublist.cons_cons _ List.Sublist.slnil))) (List.Sublist.refl _) (List.Sublist.refl _))⟩
  · subst hH; subst hQ
    exact Rf.leaf fun h => h _ _ _ ⟨_, _, _, rfl, rfl, (C90.sub (List.Sublist.refl _) (List.Sublist.refl _) (List.Sublist.refl _))⟩
abbrev P23 (N : Nat) (X : List Nat) (r : ((List Int) × (Int × Int))) (v : Value) (s : St) : Prop := ∃ (A0 : Option Addr) (c0 : Nat) (e0 : Nat), v = (Value.tuple #[(Value.slice A0 (r.1).length c0), (Value.agg #[(Value.int .i64 r.2.1), (Value.int .i64 r.2.2)])]) ∧ (On.mk (rI .i64) r.1 A0 c0 3 false e0).holds N X s
def p23 : Nat → (List (Int × Int × Int × Int)) → Option ((List Int) × (Int × Int))
  | 0, _ => none
  | n + 1, p0 => ((p39 n p0).bind fun r4 => ((if (!(((r4.1 : Int) == 0) && (((r4.2 : Int) == 0) && true))) then (((some (([] : (List Int)), (r4.1, r4.2))))) else (((((loopP (pb23_1 n p0) n (([] : List Int), 0)).bind fun t327 => (some (t327.1, (0, 0))))))))))
theorem t23 (k : Nat) (p0 : (List (Int × Int × Int × Int))) (s0 : St) {A0 : Option Addr} {c0 : Nat} (h0 : Sr (rP (rI .i64) (rP (rI .i64) (rP (rI .i64) (rI .i64)))) s0 A0 c0 p0) :
    Rf (p23 k p0) (fun _ => True) (fun r => RtC s0.next [] [] s0 (P23 s0.next [] r)) (acall E k 23 [(Value.slice A0 (p0).length c0)] s0) := by
  cases k with
  | zero => exact Rf.none
  | succ n =>
    rw [e23 n]
    rw [p23]
    refine Rf.gen fun H Q hH hQ => ?_
    have C0 : Cx s0.next [] [] s0 s0 [] [] [] := Cx.start s0
    refine Rf.new C0 fun s1 (C2 : Cx s0.next [] [] s0 s1 [(s0.next, AObj.box 24 [(Value.int .i64 0), (Value.int .i64 0)])] [] []) => ?_
    refine Rf.call0 C2 (t39 n p0 s1 (C2.sr0 rfl h0)) ?_
    rintro r4 _ s5 rfl h8
    have C9 : Cx s0.next [] [] s0 s5 [(s0.next, AObj.box 24 [(Value.int .i64 0), (Value.int .i64 0)])] [] [] := h8 [] (by simp) List.Pairwise.nil
    refine (Rf.asAgg (Rf.unc (Rf.asI (Rf.unc (Rf.asI (Rf.unn ?_))))))
    refine Rf.new C9 fun s10 (C11 : Cx s0.next [] [] s0 s10 [(s5.next, AObj.box 24 [(Value.int .i64 0), (Value.int .i64 0)]), (s0.next, AObj.box 24 [(Value.int .i64 0), (Value.int .i64 0)])] [] []) => ?_
    refine Rf.sto 0 C11 rfl (by simp) rfl fun s13 (C14 : Cx s0.next [] [] s0 s13 [(s5.next, AObj.box 24 [(Value.int .i64 r4.1), (Value.int .i64 r4.2)]), (s0.next, AObj.box 24 [(Value.int .i64 0), (Value.int .i64 0)])] [] []) => ?_
    refine Rf.ldI (C14.at m0 rfl) ?_
    refine Rf.ldI (C14.at m0 rfl) ?_
    refine Rf.ite ?_ ?_
    · refine Rf.ldI (C14.at m0 rfl) ?_
      refine Rf.ldI (C14.at m0 rfl) ?_
      refine Rf.sto 1 C14 rfl (by simp) rfl fun s19 (C20 : Cx s0.next [] [] s0 s19 [(s5.next, AObj.box 24 [(Value.int .i64 r4.1), (Value.int .i64 r4.2)]), (s0.next, AObj.box 24 [(Value.int .i64 r4.1), (Value.int .i64 r4.2)])] [] []) => ?_
      refine Rf.ldI (C20.at m1 rfl) ?_
      refine Rf.ldI (C20.at m1 rfl) ?_
      subst hH; subst hQ
      exact Rf.leaf fun _ => Ev.done (Rf.ret C20 ⟨none, 0, 0, rfl, .inl ⟨rfl, rfl, rfl⟩⟩)
    · have C23 : Cx s0.next [] [] s0 s13 [(s5.next, AObj.box 24 [(Value.int .i64 r4.1), (Value.int .i64 r4.2)]), (s0.next, AObj.box 24 [(Value.int .i64 0), (Value.int .i64 0)])] [(On.mk (rI .i64) ([] : List Int) none 0 3 false 0)] [] := C14.addNil (rI .i64) 3
      refine Rf.loop (Inv := Inv23_1 s0 p0 A0 c0 h0 s0.next) (Ex := Ex23_1 s0 p0 A0 c0 h0 s0.next) (x23_1 s0 p0 A0 c0 h0 s0.next) (fun t g s K Q h => b23_1 n s0 p0 A0 c0 h0 s0.next t g s K Q h) n _ _ _ ⟨_, _, _, rfl, (C23.sub (List.Sublist.cons _ (List.Sublist.cons_cons _ List.Sublist.slnil)) (List.Sublist.refl _) (List.Sublist.refl _))⟩ ?_
      intro t327 e g s385 h
      obtain ⟨A322, c323, e325, rfl, rfl, C386⟩ := h
      rw [e23_after0_exit0 n]
      refine Rf.sto 0 C386 rfl (by simp) rfl fun s387 (C388 : Cx s0.next [] [] s0 s387 [(s0.next, AObj.box 24 [(Value.int .i64 0), (Value.int .i64 0)])] [(On.mk (rI .i64) t327.1 A322 c323 3 false e325)] []) => ?_
      refine Rf.ldI (C388.at m0 rfl) ?_
      refine Rf.ldI (C388.at m0 rfl) ?_
      subst hH; subst hQ
      exact Rf.leaf fun _ => Ev.done (Rf.ret C388 ⟨_, _, _, rfl, C388.own _ m0⟩)
-- 24 "brindlewood/brindlewoodref7.CatchAt"
abbrev Inv24_1 (s0 : St) (p0 : (List (Int × Int × Int × Int))) (p1 : Int) (A0 : Option Addr) (c0 : Nat) (h0 : Sr (rP (rI .i64) (rP (rI .i64) (rP (rI .i64) (rI .i64)))) s0 A0 c0 p0)  (t : Int) (g : Regs) (s : St) : Prop := g = (rg 26 [(1, (Value.int .i64 p1)), (7, (Value.slice A0 (p0).length c0)), (8, (Value.int .i64 ((p0).length : Nat))), (9, (Value.int .i64 t))]) ∧ Cx s0.next [] [] s0 s [] [] []
abbrev Ex24_1 (s0 : St) (p0 : (List (Int × Int × Int × Int))) (p1 : Int) (A0 : Option Addr) (c0 : Nat) (h0 : Sr (rP (rI .i64) (rP (rI .i64) (rP (rI .i64) (rI .i64)))) s0 A0 c0 p0)  (t : (Int ⊕ Int)) (e : X) (g : Regs) (s : St) : Prop := match t with
  | (.inl t) => e = .exit 0 ∧ g = (rg 26 [(1, (Value.int .i64 p1)), (7, (Value.slice A0 (p0).length c0)), (8, (Value.int .i64 ((p0).length : Nat))), (9, (Value.int .i64 t)), (10, (Value.bool false))]) ∧ Cx s0.next [] [] s0 s [] [] []
  | (.inr t) => e = .ret ∧ g = (rg 26 [(4, (Value.int .i64 t))]) ∧ Cx s0.next [] [] s0 s [] [] []
theorem x24_1 (s0 : St) (p0 : (List (Int × Int × Int × Int))) (p1 : Int) (A0 : Option Addr) (c0 : Nat) (h0 : Sr (rP (rI .i64) (rP (rI .i64) (rP (rI .i64) (rI .i64)))) s0 A0 c0 p0)  (t : (Int ⊕ Int)) (e : X) (g : Regs) (s : St) (h : Ex24_1 s0 p0 p1 A0 c0 h0  t e g s) : e ≠ .normal := by
  rcases t with t | t
  · obtain ⟨h, _⟩ := h
    rw [h]; intro hh; cases hh
  · obtain ⟨h, _⟩ := h
    rw [h]; intro hh; cases hh
def pb24_1 (n : Nat) (p0 : (List (Int × Int × Int × Int))) (p1 : Int) (t : Int) : Option (Int ⊕ (Int ⊕ Int)) :=
  (if (decide ((t : Int) < ((p0).length : Nat))) then ((rd p0 t (fun x31 => (pj (fun (b69 : Bool) => if b69 then ((((some (.inr (.inr t)))))) else (((some (.inl (IntKind.wrap .i64 (t + 1))))))) (fun J68 => if (decide ((x31.1 : Int) ≤ p1)) then ((J68 (decide ((p1 : Int) < x31.2.1)))) else ((J68 false))))))) else (((some (.inr (.inl t))))))
theorem b24_1 (n : Nat) (s0 : St) (p0 : (List (Int × Int × Int × Int))) (p1 : Int) (A0 : Option Addr) (c0 : Nat) (h0 : Sr (rP (rI .i64) (rP (rI .i64) (rP (rI .i64) (rI .i64)))) s0 A0 c0 p0)  (x1 : Int) (g : Regs) (s28 : St) (K : Kont) (Q : Out → St → Prop) (h : Inv24_1 s0 p0 p1 A0 c0 h0  x1 g s28) :
    Rf (pb24_1 n p0 p1 x1) (fun r => ∀ e g' s', LK (Inv24_1 s0 p0 p1 A0 c0 h0 ) (Ex24_1 s0 p0 p1 A0 c0 h0 ) r e g' s' → Ev (K e g' s') Q) (fun _ => Q) (kBody E 24 n [.b, .a, .b, .a, .a] g s28 K) := by
  obtain ⟨rfl, C29⟩ := h
  rw [e24_body0 n]
  unfold pb24_1
  refine Rf.gen fun H Q hH hQ => ?_
  refine Rf.ite ?_ ?_
  · refine Rf.elt (r := (rP (rI .i64) (rP (rI .i64) (rP (rI .i64) (rI .i64))))) (C29.sr0 rfl h0) rfl fun x31 i32 o33 c34 r35 h36 => ?_
    obtain ⟨c41, c42, rfl, r43, r44⟩ := rP_elim r35
    obtain rfl := rI_elim r43
    obtain ⟨c45, c46, rfl, r47, r48⟩ := rP_elim r44
    obtain rfl := rI_elim r47
    obtain ⟨c49, c50, rfl, r51, r52⟩ := rP_elim r48
    obtain rfl := rI_elim r51
    obtain rfl := rI_elim r52
    refine Rf.ldI (h36.at 0 rfl) ?_
    refine Rf.ldI (h36.at 1 rfl) ?_
    refine Rf.ldI (h36.at 2 rfl) ?_
    refine Rf.ldI (h36.at 3 rfl) ?_
    refine Rf.new C29 fun s57 (C58 : Cx s0.next [] [] s0 s57 [(s28.next, AObj.box 51 [(Value.int .i64 0), (Value.int .i64 0), (Value.int .i64 0), (Value.int .i64 0)])] [] []) => ?_
    refine Rf.sto 0 C58 rfl (by simp) rfl fun s60 (C61 : Cx s0.next [] [] s0 s60 [(s28.next, AObj.box 51 [(Value.int .i64 x31.1), (Value.int .i64 x31.2.1), (Value.int .i64 x31.2.2.1), (Value.int .i64 x31.2.2.2)])] [] []) => ?_
    refine Rf.pj fun J68 J68' hJ68 hJ68' => ?_
    have J68h : ∀ (b69 : Bool) (_ : Cx s0.next [] [] s0 s60 [] [] []), Rf (J68 b69) H Q (J68' b69) := by
      subst hJ68
      subst hJ68'
      intro b69 C71
      refine Rf.ite ?_ ?_
      · subst hH; subst hQ
        exact Rf.leaf fun h => h _ _ _ ⟨rfl, rfl, (C71.sub (List.Sublist.refl _) (List.Sublist.refl _) (List.Sublist.refl _))⟩
      · subst hH; subst hQ
        exact Rf.leaf fun h => h _ _ _ ⟨rfl, rfl, (C71.sub (List.Sublist.refl _) (List.Sublist.refl _) (List.Sublist.refl _))⟩
    clear hJ68 hJ68'
    refine Rf.ldI (C61.at m0 rfl) ?_
    refine Rf.ite ?_ ?_
    · refine Rf.ldI (C61.at m0 rfl) ?_
      exact J68h (decide ((p1 : Int) < x31.2.1)) (C61.sub (List.Sublist.cons _ List.Sublist.slnil) (List.Sublist.refl _) (List.Sublist.refl _))
    · exact J68h false (C61.sub (List.Sublist.cons _ List.Sublist.slnil) (List.Sublist.refl _) (List.Sublist.refl _))
  · subst hH; subst hQ
    exact Rf.leaf fun h => h _ _ _ ⟨rfl, rfl, (C29.sub (List.Sublist.refl _) (List.Sublist.refl _) (List.Sublist.refl _))⟩
abbrev P24 (N : Nat) (X : List Nat) (r : Int) (v : Value) (s : St) : Prop := v = (Value.int .i64 r)
def p24 : Nat → (List (Int × Int × Int × Int)) → Int → Option Int
  | 0, _, _ => none
  | n + 1, p0, p1 => (((loopP (pb24_1 n p0 p1) n 0).bind fun t132 => match t132 with | (.inl t74) => ((some (-1))) | (.inr t103) => (some t103)))
theorem t24 (k : Nat) (p0 : (List (Int × Int × Int × Int))) (p1 : Int) (s0 : St) {A0 : Option Addr} {c0 : Nat} (h0 : Sr (rP (rI .i64) (rP (rI .i64) (rP (rI .i64) (rI .i64)))) s0 A0 c0 p0) :
    Rf (p24 k p0 p1) (fun _ => True) (fun r => RtC s0.next [] [] s0 (P24 s0.next [] r)) (acall E k 24 [(Value.slice A0 (p0).length c0), (Value.int .i64 p1)] s0) := by
  cases k with
  | zero => exact Rf.none
  | succ n =>
    rw [e24 n]
    rw [p24]
    refine Rf.gen fun H Q hH hQ => ?_
    have C0 : Cx s0.next [] [] s0 s0 [] [] [] := Cx.start s0
    refine Rf.loop (Inv := Inv24_1 s0 p0 p1 A0 c0 h0 ) (Ex := Ex24_1 s0 p0 p1 A0 c0 h0 ) (x24_1 s0 p0 p1 A0 c0 h0 ) (fun t g s K Q h => b24_1 n s0 p0 p1 A0 c0 h0  t g s K Q h) n _ _ _ ⟨rfl, (C0.sub (List.Sublist.refl _) (List.Sublist.refl _) (List.Sublist.refl _))⟩ ?_
    intro t e g s h
    rcases t with t74 | t103
    · generalize s = s101 at h ⊢
      obtain ⟨rfl, rfl, C102⟩ := h
      rw [e24_after0_exit0 n]
      subst hH; subst hQ
      exact Rf.leaf fun _ => Ev.done (Rf.ret C102 rfl)
    · generalize s = s130 at h ⊢
      obtain ⟨rfl, rfl, C131⟩ := h
      rw [e24_after0_ret n]
      subst hH; subst hQ
      exact Rf.leaf fun _ => Ev.done (Rf.ret C131 rfl)
-- 45_n "slices.Grow[[]byte,byte]"
abbrev P45_n (N : Nat) (X : List Nat) (r : (List Int)) (v : Value) (s : St) : Prop := ∃ (A0 : Option Addr) (c0 : Nat) (e0 : Nat), v = (Value.slice A0 (r).length c0) ∧ (On.mk (rI .u8) r A0 c0 5 true e0).holds N X s
def p45_n : Nat → Int → Option (List Int)
  | 0, _ => none
  | n + 1, p1 => ((if (decide ((p1 : Int) < 0)) then (none) else ((pj (fun (y19 : (List Int)) => (some y19)) (fun J13 => ((if (decide (((IntKind.wrap .i64 (p1 - (IntKind.wrap .i64 (0 - (0 : Nat))))) : Int) > 0)) then (slP ([] : (List Int)) 0 0 (fun _ => mkzP 1 (IntKind.wrap .i64 (p1 - (IntKind.wrap .i64 (0 - (0 : Nat))))) (0 : Int) (fun y5 => slP y5 0 (0 : Nat) (fun y9 => (J13 y9))))) else ((J13 ([] : List Int))))))))))
theorem t45_n (k : Nat) (p1 : Int) (s0 : St) :
    Rf (p45_n k p1) (fun _ => True) (fun r => RtC s0.next [] [] s0 (P45_n s0.next [] r)) (acall E k 45 [(Value.slice none 0 0), (Value.int .i64 p1)] s0) := by
  cases k with
  | zero => exact Rf.none
  | succ n =>
    rw [e45_n n]
    rw [p45_n]
    refine Rf.gen fun H Q hH hQ => ?_
    have C0 : Cx s0.next [] [] s0 s0 [] [] [] := Cx.start s0
    refine Rf.ite ?_ ?_
    · exact Rf.none
    · refine Rf.pj fun J13 J13' hJ13 hJ13' => ?_
      have J13h : ∀ (e22 : Value) (e23 : Value) (A17 : Option Addr) (c18 : Nat) (e20 : Nat) (y19 : (List Int)) (s24 : St) (_ : Cx s0.next [] [] s0 s24 [] [(On.mk (rI .u8) y19 A17 c18 5 true e20)] []), Rf (J13 y19) H Q (J13' (Value.slice A17 (y19).length c18) e22 e23 s24) := by
        subst hJ13
        subst hJ13'
        intro e22 e23 A17 c18 e20 y19 s24 C25
        subst hH; subst hQ
        exact Rf.leaf fun _ => Ev.done (Rf.ret C25 ⟨_, _, _, rfl, C25.own _ m0⟩)
      clear hJ13 hJ13'
      refine Rf.ite ?_ ?_
      · refine Rf.kslN u29 (by kernel_rfl) rfl rfl ?_
        refine Rf.kmkz (r := (rI .u8)) (z := (0 : Int)) C0 u29 u3 (by kernel_rfl) (by kernel_rfl) (fun _ => rI_mk) (by decide) fun s2 (C3 : Cx s0.next [] [] s0 s2 [] [(On.mk (rI .u8) (List.replicate ((IntKind.wrap .i64 (p1 - (IntKind.wrap .i64 (0 - (0 : Nat)))))).toNat (0 : Int)) (some ⟨s0.next, 0, none⟩) ((IntKind.wrap .i64 (p1 - (IntKind.wrap .i64 (0 - (0 : Nat)))))).toNat 5 true s0.next)] []) => ?_
        refine Rf.kslW 0 u29 (by kernel_rfl) C3 rfl rfl rfl fun y9 A7 c8 (C10 : Cx s0.next [] [] s0 s2 [] [(On.mk (rI .u8) y9 A7 c8 5 true s0.next)] []) => ?_
        exact J13h _ _ A7 c8 s0.next y9 _ (C10.sub (List.Sublist.refl _) (List.Sublist.refl _) (List.Sublist.refl _))
      · have C14 : Cx s0.next [] [] s0 s0 [] [(On.mk (rI .u8) ([] : List Int) none 0 5 true 0)] [] := C0.addNilW (rI .u8) 5
        exact J13h _ _ none 0 0 ([] : List Int) _ (C14.sub (List.Sublist.refl _) (List.Sublist.refl _) (List.Sublist.refl _))
-- 43 "slices.Concat[[]byte,byte]"
abbrev Inv43_1 (s0 : St) (p0 : (List (List Int))) (A0 : Option Addr) (c0 : Nat) (h0 : Sr (rL (rI .u8)) s0 A0 c0 p0)  (t : (Int × Int)) (g : Regs) (s : St) : Prop := g = (rg 36 [(0, (Value.slice A0 (p0).length c0)), (3, (Value.int .i64 t.1)), (9, (Value.slice A0 (p0).length c0)), (10, (Value.int .i64 ((p0).length : Nat))), (11, (Value.int .i64 t.2))]) ∧ Cx s0.next [] [] s0 s [] [] []
abbrev Ex43_1 (s0 : St) (p0 : (List (List Int))) (A0 : Option Addr) (c0 : Nat) (h0 : Sr (rL (rI .u8)) s0 A0 c0 p0)  (t : (Int × Int)) (e : X) (g : Regs) (s : St) : Prop := e = .exit 0 ∧ g = (rg 36 [(0, (Value.slice A0 (p0).length c0)), (3, (Value.int .i64 t.1)), (9, (Value.slice A0 (p0).length c0)), (10, (Value.int .i64 ((p0).length : Nat))), (11, (Value.int .i64 t.2)), (12, (Value.bool false))]) ∧ Cx s0.next [] [] s0 s [] [] []
theorem x43_1 (s0 : St) (p0 : (List (List Int))) (A0 : Option Addr) (c0 : Nat) (h0 : Sr (rL (rI .u8)) s0 A0 c0 p0)  (t : (Int × Int)) (e : X) (g : Regs) (s : St) (h : Ex43_1 s0 p0 A0 c0 h0  t e g s) : e ≠ .normal := by
  obtain ⟨h, _⟩ := h
  rw [h]; intro hh; cases hh
def pb43_1 (n : Nat) (p0 : (List (List Int))) (t : (Int × Int)) : Option ((Int × Int) ⊕ (Int × Int)) :=
  (if (decide ((t.2 : Int) < ((p0).length : Nat))) then ((rd p0 t.2 (fun x42 => (((if (decide (((IntKind.wrap .i64 (t.1 + ((x42).length : Nat))) : Int) < 0)) then (none) else (((some (.inl ((IntKind.wrap .i64 (t.1 + ((x42).length : Nat))), (IntKind.wrap .i64 (t.2 + 1))))))))))))) else (((some (.inr (t.1, t.2))))))
theorem b43_1 (n : Nat) (s0 : St) (p0 : (List (List Int))) (A0 : Option Addr) (c0 : Nat) (h0 : Sr (rL (rI .u8)) s0 A0 c0 p0)  (t : (Int × Int)) (g : Regs) (s39 : St) (K : Kont) (Q : Out → St → Prop) (h : Inv43_1 s0 p0 A0 c0 h0  t g s39) :
    Rf (pb43_1 n p0 t) (fun r => ∀ e g' s', LK (Inv43_1 s0 p0 A0 c0 h0 ) (Ex43_1 s0 p0 A0 c0 h0 ) r e g' s' → Ev (K e g' s') Q) (fun _ => Q) (kBody E 43 n [.b, .b, .a, .b, .a, .a] g s39 K) := by
  obtain ⟨x1, x2⟩ := t
  obtain ⟨rfl, C40⟩ := h
  rw [e43_body0 n]
  unfold pb43_1
  refine Rf.gen fun H Q hH hQ => ?_
  try dsimp only
  refine Rf.ite ?_ ?_
  · refine Rf.elt (r := (rL (rI .u8))) (C40.sr0 rfl h0) rfl fun x42 i43 o44 c45 r46 h47 => ?_
    obtain ⟨A48, c49, rfl, h50⟩ := rL_elim r46
    have C52 := C40.add (Fa.sr (rI .u8) A48 c49 x42) h50
    refine Rf.ldSl (h47.at 0 rfl) ?_
    refine Rf.ite ?_ ?_
    · exact Rf.none
    · subst hH; subst hQ
      exact Rf.leaf fun h => h _ _ _ ⟨rfl, rfl, (C52.sub (List.Sublist.refl _) (List.Sublist.refl _) (List.Sublist.cons _ List.Sublist.slnil))⟩
  · subst hH; subst hQ
    exact Rf.leaf fun h => h _ _ _ ⟨rfl, rfl, (C40.sub (List.Sublist.refl _) (List.Sublist.refl _) (List.Sublist.refl _))⟩
abbrev Inv43_2 (s0 : St) (p0 : (List (List Int))) (A0 : Option Addr) (c0 : Nat) (h0 : Sr (rL (rI .u8)) s0 A0 c0 p0)  (t : ((List Int) × Int)) (g : Regs) (s : St) : Prop := ∃ (A106 : Option Addr) (c107 : Nat) (e109 : Nat), g = (rg 36 [(6, (Value.slice A106 (t.1).length c107)), (25, (Value.slice A0 (p0).length c0)), (26, (Value.int .i64 ((p0).length : Nat))), (27, (Value.int .i64 t.2))]) ∧ Cx s0.next [] [] s0 s [] [(On.mk (rI .u8) t.1 A106 c107 5 true e109)] []
abbrev Ex43_2 (s0 : St) (p0 : (List (List Int))) (A0 : Option Addr) (c0 : Nat) (h0 : Sr (rL (rI .u8)) s0 A0 c0 p0)  (t : ((List Int) × Int)) (e : X) (g : Regs) (s : St) : Prop := ∃ (A171 : Option Addr) (c172 : Nat) (e174 : Nat), e = .exit 2 ∧ g = (rg 36 [(6, (Value.slice A171 (t.1).length c172)), (25, (Value.slice A0 (p0).length c0)), (26, (Value.int .i64 ((p0).length : Nat))), (27, (Value.int .i64 t.2)), (28, (Value.bool false))]) ∧ Cx s0.next [] [] s0 s [] [(On.mk (rI .u8) t.1 A171 c172 5 true e174)] []
theorem x43_2 (s0 : St) (p0 : (List (List Int))) (A0 : Option Addr) (c0 : Nat) (h0 : Sr (rL (rI .u8)) s0 A0 c0 p0)  (t : ((List Int) × Int)) (e : X) (g : Regs) (s : St) (h : Ex43_2 s0 p0 A0 c0 h0  t e g s) : e ≠ .normal := by
  obtain ⟨_, _, _, h, _⟩ := h
  rw [h]; intro hh; cases hh
def pb43_2 (n : Nat) (p0 : (List (List Int))) (t : ((List Int) × Int)) : Option (((List Int) × Int) ⊕ ((List Int) × Int)) :=
  (if (decide ((t.2 : Int) < ((p0).length : Nat))) then ((rd p0 t.2 (fun x150 => (apP 1 t.1 x150 (fun y165 => ((some (.inl ((t.1 ++ x150), (IntKind.wrap .i64 (t.2 + 1))))))))))) else (((some (.inr (t.1, t.2))))))
theorem b43_2 (n : Nat) (s0 : St) (p0 : (List (List Int))) (A0 : Option Addr) (c0 : Nat) (h0 : Sr (rL (rI .u8)) s0 A0 c0 p0)  (t : ((List Int) × Int)) (g : Regs) (s147 : St) (K : Kont) (Q : Out → St → Prop) (h : Inv43_2 s0 p0 A0 c0 h0  t g s147) :
    Rf (pb43_2 n p0 t) (fun r => ∀ e g' s', LK (Inv43_2 s0 p0 A0 c0 h0 ) (Ex43_2 s0 p0 A0 c0 h0 ) r e g' s' → Ev (K e g' s') Q) (fun _ => Q) (kBody E 43 n [.b, .b, .b, .b, .a, .b, .a, .a] g s147 K) := by
  obtain ⟨y108, x110⟩ := t
  obtain ⟨A106, c107, e109, rfl, C148⟩ := h
  rw [e43_body1 n]
  unfold pb43_2
  refine Rf.gen fun H Q hH hQ => ?_
  try dsimp only
  refine Rf.ite ?_ ?_
  · refine Rf.elt (r := (rL (rI .u8))) (C148.sr0 rfl h0) rfl fun x150 i151 o152 c153 r154 h155 => ?_
    obtain ⟨A156, c157, rfl, h158⟩ := rL_elim r154
    have C160 := C148.add (Fa.sr (rI .u8) A156 c157 x150) h158
    refine Rf.ldSl (h155.at 0 rfl) ?_
    refine Rf.kappW 0 C160 rfl NoRow.nil (fl_cons rI_fl fl_nil) rfl rfl (by decide) (by decide) (Ap.sr u29 rfl (C160.srG m0)) fun A162 c163 e164 s167 (C168 : Cx s0.next [] [] s0 s167 [] [(On.mk (rI .u8) (y108 ++ x150) A162 c163 5 true e164)] []) => ?_
    subst hH; subst hQ
    exact Rf.leaf fun h => h _ _ _ ⟨rfl, _, _, _, rfl, (C168.sub (List.Sublist.refl _) (List.Sublist.refl _) (List.Sublist.refl _))⟩
  · subst hH; subst hQ
    exact Rf.leaf fun h => h _ _ _ ⟨_, _, _, rfl, rfl, (C148.sub (List.Sublist.refl _) (List.Sublist.refl _) (List.Sublist.refl _))⟩
abbrev P43 (N : Nat) (X : List Nat) (r : (List Int)) (v : Value) (s : St) : Prop := ∃ (A0 : Option Addr) (c0 : Nat) (e0 : Nat), v = (Value.slice A0 (r).length c0) ∧ (On.mk (rI .u8) r A0 c0 5 true e0).holds N X s
def p43 : Nat → (List (List Int)) → Option (List Int)
  | 0, _ => none
  | n + 1, p0 => ((((loopP (pb43_1 n p0) n (0, 0)).bind fun t56 => (p45_n n t56.1).bind fun r95 => (((loopP (pb43_2 n p0) n (r95, 0)).bind fun t176 => (some t176.1))))))
theorem t43 (k : Nat) (p0 : (List (List Int))) (s0 : St) {A0 : Option Addr} {c0 : Nat} (h0 : Sr (rL (rI .u8)) s0 A0 c0 p0) :
    Rf (p43 k p0) (fun _ => True) (fun r => RtC s0.next [] [] s0 (P43 s0.next [] r)) (acall E k 43 [(Value.slice A0 (p0).length c0)] s0) := by
  cases k with
  | zero => exact Rf.none
  | succ n =>
    rw [e43 n]
    rw [p43]
    refine Rf.gen fun H Q hH hQ => ?_
    have C0 : Cx s0.next [] [] s0 s0 [] [] [] := Cx.start s0
    refine Rf.loop (Inv := Inv43_1 s0 p0 A0 c0 h0 ) (Ex := Ex43_1 s0 p0 A0 c0 h0 ) (x43_1 s0 p0 A0 c0 h0 ) (fun t g s K Q h => b43_1 n s0 p0 A0 c0 h0  t g s K Q h) n _ _ _ ⟨rfl, (C0.sub (List.Sublist.refl _) (List.Sublist.refl _) (List.Sublist.refl _))⟩ ?_
    intro t56 e g s93 h
    obtain ⟨rfl, rfl, C94⟩ := h
    rw [e43_after0_exit0 n]
    refine Rf.call0 C94 (t45_n n t56.1 s93) ?_
    rintro r95 _ s96 ⟨A97, c98, e100, rfl, h99⟩ h103
    have C104 : Cx s0.next [] [] s0 s96 [] [(On.mk (rI .u8) r95 A97 c98 5 true e100)] [] := h103 [(On.mk (rI .u8) r95 A97 c98 5 true e100)] (by simpa using h99) (List.pairwise_singleton _ _)
    refine (Rf.asSl ?_)
    refine Rf.loop (Inv := Inv43_2 s0 p0 A0 c0 h0 ) (Ex := Ex43_2 s0 p0 A0 c0 h0 ) (x43_2 s0 p0 A0 c0 h0 ) (fun t g s K Q h => b43_2 n s0 p0 A0 c0 h0  t g s K Q h) n _ _ _ ⟨_, _, _, rfl, (C104.sub (List.Sublist.refl _) (List.Sublist.refl _) (List.Sublist.refl _))⟩ ?_
    intro t176 e g s213 h
    obtain ⟨A171, c172, e174, rfl, rfl, C214⟩ := h
    rw [e43_after1_exit2 n]
    subst hH; subst hQ
    exact Rf.leaf fun _ => Ev.done (Rf.ret C214 ⟨_, _, _, rfl, C214.own _ m0⟩)
-- 25 "brindlewood/brindlewoodref7.PackedCatches"
abbrev Inv25_1 (s0 : St) (p0 : (List (Int × Int × Int × Int))) (A0 : Option Addr) (c0 : Nat) (h0 : Sr (rP (rI .i64) (rP (rI .i64) (rP (rI .i64) (rI .i64)))) s0 A0 c0 p0)  (t : ((List Int) × Int × Int)) (g : Regs) (s : St) : Prop := ∃ (A4 : Option Addr) (c5 : Nat) (e7 : Nat), g = (rg 40 [(3, (Value.slice A4 (t.1).length c5)), (4, (Value.int .i64 t.2.1)), (7, (Value.slice A0 (p0).length c0)), (8, (Value.int .i64 ((p0).length : Nat))), (9, (Value.int .i64 t.2.2))]) ∧ Cx s0.next [] [] s0 s [] [(On.mk (rI .u8) t.1 A4 c5 5 true e7)] []
abbrev Ex25_1 (s0 : St) (p0 : (List (Int × Int × Int × Int))) (A0 : Option Addr) (c0 : Nat) (h0 : Sr (rP (rI .i64) (rP (rI .i64) (rP (rI .i64) (rI .i64)))) s0 A0 c0 p0)  (t : ((List Int) × Int × Int)) (e : X) (g : Regs) (s : St) : Prop := ∃ (A169 : Option Addr) (c170 : Nat) (e172 : Nat), e = .exit 0 ∧ g = (rg 40 [(3, (Value.slice A169 (t.1).length c170)), (4, (Value.int .i64 t.2.1)), (7, (Value.slice A0 (p0).length c0)), (8, (Value.int .i64 ((p0).length : Nat))), (9, (Value.int .i64 t.2.2)), (10, (Value.bool false))]) ∧ Cx s0.next [] [] s0 s [] [(On.mk (rI .u8) t.1 A169 c170 5 true e172)] []
theorem x25_1 (s0 : St) (p0 : (List (Int × Int × Int × Int))) (A0 : Option Addr) (c0 : Nat) (h0 : Sr (rP (rI .i64) (rP (rI .i64) (rP (rI .i64) (rI .i64)))) s0 A0 c0 p0)  (t : ((List Int) × Int × Int)) (e : X) (g : Regs) (s : St) (h : Ex25_1 s0 p0 A0 c0 h0  t e g s) : e ≠ .normal := by
  obtain ⟨_, _, _, h, _⟩ := h
  rw [h]; intro hh; cases hh
def pb25_1 (n : Nat) (p0 : (List (Int × Int × Int × Int))) (t : ((List Int) × Int × Int)) : Option (((List Int) × Int × Int) ⊕ ((List Int) × Int × Int)) :=
  (if (decide ((t.2.2 : Int) < ((p0).length : Nat))) then ((rd p0 t.2.2 (fun x53 => ((p35 n (IntKind.wrap .i64 (x53.1 - t.2.1))).bind fun r87 => (p34 n (IntKind.wrap .i64 (x53.2.1 - x53.1))).bind fun r105 => (p35 n (IntKind.wrap .i64 (x53.2.2.1 - x53.2.1))).bind fun r123 => (p34 n x53.2.2.2).bind fun r138 => (p43 n [t.1, r87, r105, r123, r138]).bind fun r153 => (((some (.inl (r153, x53.1, (IntKind.wrap .i64 (t.2.2 + 1))))))))))) else (((some (.inr (t.1, t.2.1, t.2.2))))))
theorem b25_1 (n : Nat) (s0 : St) (p0 : (List (Int × Int × Int × Int))) (A0 : Option Addr) (c0 : Nat) (h0 : Sr (rP (rI .i64) (rP (rI .i64) (rP (rI .i64) (rI .i64)))) s0 A0 c0 p0)  (t : ((List Int) × Int × Int)) (g : Regs) (s50 : St) (K : Kont) (Q : Out → St → Prop) (h : Inv25_1 s0 p0 A0 c0 h0  t g s50) :
    Rf (pb25_1 n p0 t) (fun r => ∀ e g' s', LK (Inv25_1 s0 p0 A0 c0 h0 ) (Ex25_1 s0 p0 A0 c0 h0 ) r e g' s' → Ev (K e g' s') Q) (fun _ => Q) (kBody E 25 n [.b, .b, .b, .a, .b, .a, .a] g s50 K) := by
  obtain ⟨y6, x8, x9⟩ := t
  obtain ⟨A4, c5, e7, rfl, C51⟩ := h
  rw [e25_body0 n]
  unfold pb25_1
  refine Rf.gen fun H Q hH hQ => ?_
  try dsimp only
  refine Rf.ite ?_ ?_
  · refine Rf.elt (r := (rP (rI .i64) (rP (rI .i64) (rP (rI .i64) (rI .i64))))) (C51.sr0 rfl h0) rfl fun x53 i54 o55 c56 r57 h58 => ?_
    obtain ⟨c63, c64, rfl, r65, r66⟩ := rP_elim r57
    obtain rfl := rI_elim r65
    obtain ⟨c67, c68, rfl, r69, r70⟩ := rP_elim r66
    obtain rfl := rI_elim r69
    obtain ⟨c71, c72, rfl, r73, r74⟩ := rP_elim r70
    obtain rfl := rI_elim r73
    obtain rfl := rI_elim r74
    refine Rf.ldI (h58.at 0 rfl) ?_
    refine Rf.ldI (h58.at 1 rfl) ?_
    refine Rf.ldI (h58.at 2 rfl) ?_
    refine Rf.ldI (h58.at 3 rfl) ?_
    refine Rf.new C51 fun s79 (C80 : Cx s0.next [] [] s0 s79 [(s50.next, AObj.box 51 [(Value.int .i64 0), (Value.int .i64 0), (Value.int .i64 0), (Value.int .i64 0)])] [(On.mk (rI .u8) y6 A4 c5 5 true e7)] []) => ?_
    refine Rf.sto 0 C80 rfl (by simp) rfl fun s82 (C83 : Cx s0.next [] [] s0 s82 [(s50.next, AObj.box 51 [(Value.int .i64 x53.1), (Value.int .i64 x53.2.1), (Value.int .i64 x53.2.2.1), (Value.int .i64 x53.2.2.2)])] [(On.mk (rI .u8) y6 A4 c5 5 true e7)] []) => ?_
    refine Rf.ifp (C83.isB m0) ?_
    refine Rf.ldI (C83.at m0 rfl) ?_
    refine Rf.call0A C83 (t35 n (IntKind.wrap .i64 (x53.1 - x8)) { s82 with lowb := s82.next }) ?_
    rintro r87 _ s88 ⟨A89, c90, e92, rfl, h91⟩ h96 h95
    have C98 : Cx s0.next [] [] s0 { s88 with lowb := min s82.lowb s88.lowb } [(s50.next, AObj.box 51 [(Value.int .i64 x53.1), (Value.int .i64 x53.2.1), (Value.int .i64 x53.2.2.1), (Value.int .i64 x53.2.2.2)])] [(On.mk (rI .u8) r87 A89 c90 5 false e92), (On.mk (rI .u8) y6 A4 c5 5 true e7)] [] := h95 [(On.mk (rI .u8) r87 A89 c90 5 false e92)] (by simpa using h91) (List.pairwise_singleton _ _)
    refine (Rf.asSl ?_)
    refine Rf.ifp h96 ?_
    refine Rf.lt ?_
    generalize { s88 with lowb := min s82.lowb s88.lowb } = s97 at C98 ⊢
    refine Rf.ifp (C98.isB m0) ?_
    refine Rf.ldI (C98.at m0 rfl) ?_
    refine Rf.ifp (C98.isB m0) ?_
    refine Rf.ldI (C98.at m0 rfl) ?_
    refine Rf.call0A C98 (t34 n (IntKind.wrap .i64 (x53.2.1 - x53.1)) { s97 with lowb := s97.next }) ?_
    rintro r105 _ s106 ⟨A107, c108, e110, rfl, h109⟩ h114 h113
    have C116 : Cx s0.next [] [] s0 { s106 with lowb := min s97.lowb s106.lowb } [(s50.next, AObj.box 51 [(Value.int .i64 x53.1), (Value.int .i64 x53.2.1), (Value.int .i64 x53.2.2.1), (Value.int .i64 x53.2.2.2)])] [(On.mk (rI .u8) r105 A107 c108 5 false e110), (On.mk (rI .u8) r87 A89 c90 5 false e92), (On.mk (rI .u8) y6 A4 c5 5 true e7)] [] := h113 [(On.mk (rI .u8) r105 A107 c108 5 false e110)] (by simpa using h109) (List.pairwise_singleton _ _)
    refine (Rf.asSl ?_)
    refine Rf.ifp h114 ?_
    refine Rf.lt ?_
    generalize { s106 with lowb := min s97.lowb s106.lowb } = s115 at C116 ⊢
    refine Rf.ifp (C116.isB m0) ?_
    refine Rf.ldI (C116.at m0 rfl) ?_
    refine Rf.ifp (C116.isB m0) ?_
    refine Rf.ldI (C116.at m0 rfl) ?_
    refine Rf.call0A C116 (t35 n (IntKind.wrap .i64 (x53.2.2.1 - x53.2.1)) { s115 with lowb := s115.next }) ?_
    rintro r123 _ s124 ⟨A125, c126, e128, rfl, h127⟩ h132 h131
    have C134 : Cx s0.next [] [] s0 { s124 with lowb := min s115.lowb s124.lowb } [(s50.next, AObj.box 51 [(Value.int .i64 x53.1), (Value.int .i64 x53.2.1), (Value.int .i64 x53.2.2.1), (Value.int .i64 x53.2.2.2)])] [(On.mk (rI .u8) r123 A125 c126 5 false e128), (On.mk (rI .u8) r105 A107 c108 5 false e110), (On.mk (rI .u8) r87 A89 c90 5 false e92), (On.mk (rI .u8) y6 A4 c5 5 true e7)] [] := h131 [(On.mk (rI .u8) r123 A125 c126 5 false e128)] (by simpa using h127) (List.pairwise_singleton _ _)
    refine (Rf.asSl ?_)
    refine Rf.ifp h132 ?_
    refine Rf.lt ?_
    generalize { s124 with lowb := min s115.lowb s124.lowb } = s133 at C134 ⊢
    refine Rf.ifp (C134.isB m0) ?_
    refine Rf.ldI (C134.at m0 rfl) ?_
    refine Rf.call0A C134 (t34 n x53.2.2.2 { s133 with lowb := s133.next }) ?_
    rintro r138 _ s139 ⟨A140, c141, e143, rfl, h142⟩ h147 h146
    have C149 : Cx s0.next [] [] s0 { s139 with lowb := min s133.lowb s139.lowb } [(s50.next, AObj.box 51 [(Value.int .i64 x53.1), (Value.int .i64 x53.2.1), (Value.int .i64 x53.2.2.1), (Value.int .i64 x53.2.2.2)])] [(On.mk (rI .u8) r138 A140 c141 5 false e143), (On.mk (rI .u8) r123 A125 c126 5 false e128), (On.mk (rI .u8) r105 A107 c108 5 false e110), (On.mk (rI .u8) r87 A89 c90 5 false e92), (On.mk (rI .u8) y6 A4 c5 5 true e7)] [] := h146 [(On.mk (rI .u8) r138 A140 c141 5 false e143)] (by simpa using h142) (List.pairwise_singleton _ _)
    refine (Rf.asSl ?_)
    refine Rf.ifp h147 ?_
    refine Rf.lt ?_
    generalize { s139 with lowb := min s133.lowb s139.lowb } = s148 at C149 ⊢
    refine Rf.newR (r := (rL (rI .u8))) (xs := [y6, r87, r105, r123, r138]) C149 rfl (many.cons (c := [(Value.slice A4 (y6).length c5)]) (rL_mk (C149.srB m4)) (many.cons (c := [(Value.slice A89 (r87).length c90)]) (rL_mk (C149.srB m3)) (many.cons (c := [(Value.slice A107 (r105).length c108)]) (rL_mk (C149.srB m2)) (many.cons (c := [(Value.slice A125 (r123).length c126)]) (rL_mk (C149.srB m1)) (many.cons (c := [(Value.slice A140 (r138).length c141)]) (rL_mk (C149.srB m0)) many.nil))))) fun s150 (C151 : Cx s0.next [] [] s0 s150 [(s50.next, AObj.box 51 [(Value.int .i64 x53.1), (Value.int .i64 x53.2.1), (Value.int .i64 x53.2.2.1), (Value.int .i64 x53.2.2.2)])] [(On.mk (rL (rI .u8)) [y6, r87, r105, r123, r138] (some ⟨s148.next, 0, none⟩) 5 29 false s148.next), (On.mk (rI .u8) r138 A140 c141 5 false e143), (On.mk (rI .u8) r123 A125 c126 5 false e128), (On.mk (rI .u8) r105 A107 c108 5 false e110), (On.mk (rI .u8) r87 A89 c90 5 false e92), (On.mk (rI .u8) y6 A4 c5 5 true e7)] []) => ?_
    refine Rf.call0A C151 (t43 n [y6, r87, r105, r123, r138] { s150 with lowb := s150.next } (C151.lb.srB m0)) ?_
    rintro r153 _ s154 ⟨A155, c156, e158, rfl, h157⟩ h162 h161
    have C164 : Cx s0.next [] [] s0 { s154 with lowb := min s150.lowb s154.lowb } [(s50.next, AObj.box 51 [(Value.int .i64 x53.1), (Value.int .i64 x53.2.1), (Value.int .i64 x53.2.2.1), (Value.int .i64 x53.2.2.2)])] [(On.mk (rI .u8) r153 A155 c156 5 true e158), (On.mk (rL (rI .u8)) [y6, r87, r105, r123, r138] (some ⟨s148.next, 0, none⟩) 5 29 false s148.next), (On.mk (rI .u8) r138 A140 c141 5 false e143), (On.mk (rI .u8) r123 A125 c126 5 false e128), (On.mk (rI .u8) r105 A107 c108 5 false e110), (On.mk (rI .u8) r87 A89 c90 5 false e92), (On.mk (rI .u8) y6 A4 c5 5 true e7)] [] := h161 [(On.mk (rI .u8) r153 A155 c156 5 true e158)] (by simpa using h157) (List.pairwise_singleton _ _)
    refine (Rf.asSl ?_)
    refine Rf.ifp h162 ?_
    refine Rf.lt ?_
    generalize { s154 with lowb := min s150.lowb s154.lowb } = s163 at C164 ⊢
    refine Rf.ldI (C164.at m0 rfl) ?_
    subst hH; subst hQ
    exact Rf.leaf fun h => h _ _ _ ⟨rfl, _, _, _, rfl, (C164.sub (List.Sublist.cons _ List.Sublist.slnil) (List.Sublist.cons_cons _ (List.Sublist.cons _ (List.Sublist.cons _ (List.Sublist.cons _ (List.Sublist.cons _ (List.Sublist.cons _ (List.Sublist.cons _ List.Sublist.slnil))))))) (List.Sublist.refl _))⟩
  · subst hH; subst hQ
    exact Rf.leaf fun h => h _ _ _ ⟨_, _, _, rfl, rfl, (C51.sub (List.Sublist.refl _) (List.Sublist.refl _) (List.Sublist.refl _))⟩
abbrev P25 (N : Nat) (X : List Nat) (r : (List Int)) (v : Value) (s : St) : Prop := ∃ (A0 : Option Addr) (c0 : Nat) (e0 : Nat), v = (Value.slice A0 (r).length c0) ∧ (On.mk (rI .u8) r A0 c0 5 true e0).holds N X s
def p25 : Nat → (List (Int × Int × Int × Int)) → Option (List Int)
  | 0, _ => none
  | n + 1, p0 => (((((loopP (pb25_1 n p0) n (([] : List Int), 0, 0)).bind fun t175 => (some t175.1)))))
theorem t25 (k : Nat) (p0 : (List (Int × Int × Int × Int))) (s0 : St) {A0 : Option Addr} {c0 : Nat} (h0 : Sr (rP (rI .i64) (rP (rI .i64) (rP (rI .i64) (rI .i64)))) s0 A0 c0 p0) :
    Rf (p25 k p0) (fun _ => True) (fun r => RtC s0.next [] [] s0 (P25 s0.next [] r)) (acall E k 25 [(Value.slice A0 (p0).length c0)] s0) := by
  cases k with
  | zero => exact Rf.none
  | succ n =>
    rw [e25 n]
    rw [p25]
    refine Rf.gen fun H Q hH hQ => ?_
    have C0 : Cx s0.next [] [] s0 s0 [] [] [] := Cx.start s0
    have C1 : Cx s0.next [] [] s0 s0 [] [(On.mk (rI .u8) ([] : List Int) none 0 5 true 0)] [] := C0.addNilW (rI .u8) 5
    refine Rf.loop (Inv := Inv25_1 s0 p0 A0 c0 h0 ) (Ex := Ex25_1 s0 p0 A0 c0 h0 ) (x25_1 s0 p0 A0 c0 h0 ) (fun t g s K Q h => b25_1 n s0 p0 A0 c0 h0  t g s K Q h) n _ _ _ ⟨_, _, _, rfl, (C1.sub (List.Sublist.refl _) (List.Sublist.refl _) (List.Sublist.refl _))⟩ ?_
    intro t175 e g s216 h
    obtain ⟨A169, c170, e172, rfl, rfl, C217⟩ := h
    rw [e25_after0_exit0 n]
    subst hH; subst hQ
    exact Rf.leaf fun _ => Ev.done (Rf.ret C217 ⟨_, _, _, rfl, C217.own _ m0⟩)
-- 44 "slices.Equal[[]int,int]"
abbrev Inv44_1 (s0 : St) (p0 : (List Int)) (p1 : (List Int)) (A0 : Option Addr) (c0 : Nat) (A1 : Option Addr) (c1 : Nat) (h0 : Sr (rI .i64) s0 A0 c0 p0) (h1 : Sr (rI .i64) s0 A1 c1 p1)  (t : Int) (g : Regs) (s : St) : Prop := g = (rg 26 [(0, (Value.slice A0 (p0).length c0)), (1, (Value.slice A1 (p1).length c1)), (12, (Value.int .i64 ((p0).length : Nat))), (13, (Value.int .i64 t))]) ∧ Cx s0.next [] [] s0 s [] [] []
abbrev Ex44_1 (s0 : St) (p0 : (List Int)) (p1 : (List Int)) (A0 : Option Addr) (c0 : Nat) (A1 : Option Addr) (c1 : Nat) (h0 : Sr (rI .i64) s0 A0 c0 p0) (h1 : Sr (rI .i64) s0 A1 c1 p1)  (t : (Int ⊕ Unit)) (e : X) (g : Regs) (s : St) : Prop := match t with
  | (.inl t) => e = .exit 0 ∧ g = (rg 26 [(0, (Value.slice A0 (p0).length c0)), (1, (Value.slice A1 (p1).length c1)), (12, (Value.int .i64 ((p0).length : Nat))), (13, (Value.int .i64 t)), (14, (Value.bool false))]) ∧ Cx s0.next [] [] s0 s [] [] []
  | (.inr t) => e = .ret ∧ g = (rg 26 [(4, (Value.bool false))]) ∧ Cx s0.next [] [] s0 s [] [] []
theorem x44_1 (s0 : St) (p0 : (List Int)) (p1 : (List Int)) (A0 : Option Addr) (c0 : Nat) (A1 : Option Addr) (c1 : Nat) (h0 : Sr (rI .i64) s0 A0 c0 p0) (h1 : Sr (rI .i64) s0 A1 c1 p1)  (t : (Int ⊕ Unit)) (e : X) (g : Regs) (s : St) (h : Ex44_1 s0 p0 p1 A0 c0 A1 c1 h0 h1  t e g s) : e ≠ .normal := by
  rcases t with t | t
  · obtain ⟨h, _⟩ := h
    rw [h]; intro hh; cases hh
  · obtain ⟨h, _⟩ := h
    rw [h]; intro hh; cases hh
def pb44_1 (n : Nat) (p0 : (List Int)) (p1 : (List Int)) (t : Int) : Option (Int ⊕ (Int ⊕ Unit)) :=
  (if (decide ((t : Int) < ((p0).length : Nat))) then (((rd p0 t (fun x31 => rd p1 t (fun x38 => (if ((x31 : Int) != x38) then ((((some (.inr (.inr ())))))) else (((some (.inl (IntKind.wrap .i64 (t + 1)))))))))))) else (((some (.inr (.inl t))))))
theorem b44_1 (n : Nat) (s0 : St) (p0 : (List Int)) (p1 : (List Int)) (A0 : Option Addr) (c0 : Nat) (A1 : Option Addr) (c1 : Nat) (h0 : Sr (rI .i64) s0 A0 c0 p0) (h1 : Sr (rI .i64) s0 A1 c1 p1)  (x1 : Int) (g : Regs) (s28 : St) (K : Kont) (Q : Out → St → Prop) (h : Inv44_1 s0 p0 p1 A0 c0 A1 c1 h0 h1  x1 g s28) :
    Rf (pb44_1 n p0 p1 x1) (fun r => ∀ e g' s', LK (Inv44_1 s0 p0 p1 A0 c0 A1 c1 h0 h1 ) (Ex44_1 s0 p0 p1 A0 c0 A1 c1 h0 h1 ) r e g' s' → Ev (K e g' s') Q) (fun _ => Q) (kBody E 44 n [.b, .b, .a, .b, .a, .a] g s28 K) := by
  obtain ⟨rfl, C29⟩ := h
  rw [e44_body0 n]
  unfold pb44_1
  refine Rf.gen fun H Q hH hQ => ?_
  refine Rf.ite ?_ ?_
  · refine Rf.elt (r := (rI .i64)) (C29.sr0 rfl h0) rfl fun x31 i32 o33 c34 r35 h36 => ?_
    obtain rfl := rI_elim r35
    refine Rf.ldI (h36.at 0 rfl) ?_
    refine Rf.elt (r := (rI .i64)) (C29.sr0 rfl h1) rfl fun x38 i39 o40 c41 r42 h43 => ?_
    obtain rfl := rI_elim r42
    refine Rf.ldI (h43.at 0 rfl) ?_
    refine Rf.ite ?_ ?_
    · subst hH; subst hQ
      exact Rf.leaf fun h => h _ _ _ ⟨rfl, rfl, (C29.sub (List.Sublist.refl _) (List.Sublist.refl _) (List.Sublist.refl _))⟩
    · subst hH; subst hQ
      exact Rf.leaf fun h => h _ _ _ ⟨rfl, rfl, (C29.sub (List.Sublist.refl _) (List.Sublist.refl _) (List.Sublist.refl _))⟩
  · subst hH; subst hQ
    exact Rf.leaf fun h => h _ _ _ ⟨rfl, rfl, (C29.sub (List.Sublist.refl _) (List.Sublist.refl _) (List.Sublist.refl _))⟩
abbrev P44 (N : Nat) (X : List Nat) (r : Bool) (v : Value) (s : St) : Prop := v = (Value.bool r)
def p44 : Nat → (List Int) → (List Int) → Option Bool
  | 0, _, _ => none
  | n + 1, p0, p1 => ((if ((((p0).length : Nat) : Int) != ((p1).length : Nat)) then (((some false))) else ((((loopP (pb44_1 n p0 p1) n 0).bind fun t104 => match t104 with | (.inl t46) => ((some true)) | (.inr t75) => (some false))))))
theorem t44 (k : Nat) (p0 : (List Int)) (p1 : (List Int)) (s0 : St) {A0 : Option Addr} {c0 : Nat} {A1 : Option Addr} {c1 : Nat} (h0 : Sr (rI .i64) s0 A0 c0 p0) (h1 : Sr (rI .i64) s0 A1 c1 p1) :
    Rf (p44 k p0 p1) (fun _ => True) (fun r => RtC s0.next [] [] s0 (P44 s0.next [] r)) (acall E k 44 [(Value.slice A0 (p0).length c0), (Value.slice A1 (p1).length c1)] s0) := by
  cases k with
  | zero => exact Rf.none
  | succ n =>
    rw [e44 n]
    rw [p44]
    refine Rf.gen fun H Q hH hQ => ?_
    have C0 : Cx s0.next [] [] s0 s0 [] [] [] := Cx.start s0
    refine Rf.ite ?_ ?_
    · subst hH; subst hQ
      exact Rf.leaf fun _ => Ev.done (Rf.ret C0 rfl)
    · refine Rf.loop (Inv := Inv44_1 s0 p0 p1 A0 c0 A1 c1 h0 h1 ) (Ex := Ex44_1 s0 p0 p1 A0 c0 A1 c1 h0 h1 ) (x44_1 s0 p0 p1 A0 c0 A1 c1 h0 h1 ) (fun t g s K Q h => b44_1 n s0 p0 p1 A0 c0 A1 c1 h0 h1  t g s K Q h) n _ _ _ ⟨rfl, (C0.sub (List.Sublist.refl _) (List.Sublist.refl _) (List.Sublist.refl _))⟩ ?_
      intro t e g s h
      rcases t with t46 | t75
      · generalize s = s73 at h ⊢
        obtain ⟨rfl, rfl, C74⟩ := h
        rw [e44_after0_exit0 n]
        subst hH; subst hQ
        exact Rf.leaf fun _ => Ev.done (Rf.ret C74 rfl)
      · generalize s = s102 at h ⊢
        obtain ⟨rfl, rfl, C103⟩ := h
        rw [e44_after0_ret n]
        subst hH; subst hQ
        exact Rf.leaf fun _ => Ev.done (Rf.ret C103 rfl)
-- 26 "brindlewood/brindlewoodref7.Ints"
abbrev P26 (N : Nat) (X : List Nat) (r : Bool) (v : Value) (s : St) : Prop := v = (Value.bool r)
def p26 : Nat → (List Int) → (List Int) → Option Bool
  | 0, _, _ => none
  | n + 1, p0, p1 => ((p44 n p0 p1).bind fun r1 => (some r1))
theorem t26 (k : Nat) (p0 : (List Int)) (p1 : (List Int)) (s0 : St) {A0 : Option Addr} {c0 : Nat} {A1 : Option Addr} {c1 : Nat} (h0 : Sr (rI .i64) s0 A0 c0 p0) (h1 : Sr (rI .i64) s0 A1 c1 p1) :
    Rf (p26 k p0 p1) (fun _ => True) (fun r => RtC s0.next [] [] s0 (P26 s0.next [] r)) (acall E k 26 [(Value.slice A0 (p0).length c0), (Value.slice A1 (p1).length c1)] s0) := by
  cases k with
  | zero => exact Rf.none
  | succ n =>
    rw [e26 n]
    rw [p26]
    refine Rf.gen fun H Q hH hQ => ?_
    have C0 : Cx s0.next [] [] s0 s0 [] [] [] := Cx.start s0
    refine Rf.call0 C0 (t44 n p0 p1 s0 (C0.sr0 rfl h0) (C0.sr0 rfl h1)) ?_
    rintro r1 _ s2 rfl h4
    have C5 : Cx s0.next [] [] s0 s2 [] [] [] := h4 [] (by simp) List.Pairwise.nil
    refine (Rf.asB ?_)
    subst hH; subst hQ
    exact Rf.leaf fun _ => Ev.done (Rf.ret C5 rfl)
end Go.Proofs.YtmjignphadnadaaF
