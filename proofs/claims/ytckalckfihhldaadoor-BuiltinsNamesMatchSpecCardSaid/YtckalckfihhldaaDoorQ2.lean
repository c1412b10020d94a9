/- The functions of the law of names, told as plain functions, part 2. -/
import Derived.Test.YtckalckfihhldaaDoorG2
import Derived.Test.YtckalckfihhldaaDoorP1
set_option linter.unusedVariables false
set_option linter.unusedSimpArgs false
namespace Go.Proofs.YtckalckfihhldaaDoorF
open Go Go.Proofs
set_option maxRecDepth 100000
set_option maxHeartbeats 2000000


theorem u48 : E.und 48 = some (.slice 67) := by kernel_rfl
theorem u49 : E.und 49 = some (.slice 26) := by kernel_rfl
theorem u65 : E.und 65 = some (.slice 74) := by kernel_rfl
theorem u116 : E.und 116 = some (.slice 3) := by kernel_rfl
theorem u136 : E.und 136 = some (.slice 4) := by kernel_rfl
-- 27 "brindlewood/bridge.signature"
abbrev Inv27_2 (s0 : St) (p0 : ByteArray) (gl0 : GlobOk s0) (y110 : (List ByteArray)) (t : ((List Unit) × (List (Int × (Bool × (List Int)) × (Bool × (List Int)) × ByteArray × Int)) × (List ByteArray) × Int)) (g : Regs) (s : St) : Prop := ∃ (A118 : Option Addr) (c119 : Nat) (e120 : Nat) (A125 : Option Addr) (c126 : Nat) (e127 : Nat) (A129 : Option Addr) (c130 : Nat), g = (rg 59 [(8, (Value.slice A118 (t.1).length c119)), (9, (Value.slice A125 (t.2.1).length c126)), (30, (Value.slice A129 (t.2.2.1).length c130)), (31, (Value.int .i64 ((y110).length : Nat))), (32, (Value.int .i64 t.2.2.2))]) ∧ Cx s0.next [] [] s0 s [] [(On.mk (rP (rI .i64) (rP (rP rB (rL (rI .u32))) (rP (rP rB (rL (rI .u32))) (rP rS (rI .i64))))) t.2.1 A125 c126 26 false e127), (On.mk (rX 3) t.1 A118 c119 67 false e120)] [(Fa.sr rS A129 c130 t.2.2.1)]
abbrev Ex27_2 (s0 : St) (p0 : ByteArray) (gl0 : GlobOk s0) (y110 : (List ByteArray)) (t : ((List Unit) × (List (Int × (Bool × (List Int)) × (Bool × (List Int)) × ByteArray × Int)) × (List ByteArray) × Int)) (e : X) (g : Regs) (s : St) : Prop := ∃ (A291 : Option Addr) (c292 : Nat) (e293 : Nat) (A296 : Option Addr) (c297 : Nat) (e298 : Nat) (A300 : Option Addr) (c301 : Nat), e = .exit 2 ∧ g = (rg 59 [(8, (Value.slice A291 (t.1).length c292)), (9, (Value.slice A296 (t.2.1).length c297)), (30, (Value.slice A300 (t.2.2.1).length c301)), (31, (Value.int .i64 ((y110).length : Nat))), (32, (Value.int .i64 t.2.2.2)), (33, (Value.bool false))]) ∧ Cx s0.next [] [] s0 s [] [(On.mk (rP (rI .i64) (rP (rP rB (rL (rI .u32))) (rP (rP rB (rL (rI .u32))) (rP rS (rI .i64))))) t.2.1 A296 c297 26 false e298), (On.mk (rX 3) t.1 A291 c292 67 false e293)] [(Fa.sr rS A300 c301 t.2.2.1)]
theorem x27_2 (s0 : St) (p0 : ByteArray) (gl0 : GlobOk s0) (y110 : (List ByteArray)) (t : ((List Unit) × (List (Int × (Bool × (List Int)) × (Bool × (List Int)) × ByteArray × Int)) × (List ByteArray) × Int)) (e : X) (g : Regs) (s : St) (h : Ex27_2 s0 p0 gl0 y110 t e g s) : e ≠ .normal := by
  obtain ⟨_, _, _, _, _, _, _, _, h, _⟩ := h
  rw [h]; intro hh; cases hh
def pb27_2 (n : Nat)  (y110 : (List ByteArray)) (t : ((List Unit) × (List (Int × (Bool × (List Int)) × (Bool × (List Int)) × ByteArray × Int)) × (List ByteArray) × Int)) : Option (((List Unit) × (List (Int × (Bool × (List Int)) × (Bool × (List Int)) × ByteArray × Int)) × (List ByteArray) × Int) ⊕ ((List Unit) × (List (Int × (Bool × (List Int)) × (Bool × (List Int)) × ByteArray × Int)) × (List ByteArray) × Int)) :=
  (if (decide ((t.2.2.2 : Int) < ((y110).length : Nat))) then ((rd t.2.2.1 t.2.2.2 (fun x195 => ((p23 n x195 (⟨#[61]⟩ : ByteArray)).bind fun r202 => ((pj (fun (y258 : (List (Int × (Bool × (List Int)) × (Bool × (List Int)) × ByteArray × Int))) (y265 : (List Unit)) => apP 48 t.1 [()] (fun y283 => ((some (.inl ((t.1 ++ [()]), y258, t.2.2.1, (IntKind.wrap .i64 (t.2.2.2 + 1)))))))) (fun J256 => (if r202.2.2 then (mkP 232 1 1 () (fun y217 => ((p43 n 0).bind fun r223 => apP 96 t.2.1 [(r223.1, (r223.2.1.1, r223.2.1.2), (r223.2.2.1.1, r223.2.2.1.2), r223.2.2.2.1, r223.2.2.2.2)] (fun y250 => (J256 (t.2.1 ++ ([(r223.1, (r223.2.1.1, r223.2.1.2), (r223.2.2.1.1, r223.2.2.1.2), r223.2.2.2.1, r223.2.2.2.2)] : List (Int × (Bool × (List Int)) × (Bool × (List Int)) × ByteArray × Int))) (List.replicate (Int.toNat 1) ())))))) else ((J256 t.2.1 ([] : List Unit))))))))))) else (((some (.inr (t.1, t.2.1, t.2.2.1, t.2.2.2))))))
theorem b27_2 (n : Nat) (s0 : St) (p0 : ByteArray) (gl0 : GlobOk s0) (y110 : (List ByteArray)) (t : ((List Unit) × (List (Int × (Bool × (List Int)) × (Bool × (List Int)) × ByteArray × Int)) × (List ByteArray) × Int)) (g : Regs) (s192 : St) (K : Kont) (Q : Out → St → Prop) (h : Inv27_2 s0 p0 gl0 y110 t g s192) :
    Rf (pb27_2 n y110 t) (fun r => ∀ e g' s', LK (Inv27_2 s0 p0 gl0 y110) (Ex27_2 s0 p0 gl0 y110) r e g' s' → Ev (K e g' s') Q) (fun _ => Q) (kBody E 27 n [.b, .a, .b, .a, .a, .b, .b, .a, .a, .b, .b, .b, .b, .b, .a, .b, .a, .a] g s192 K) := by
  obtain ⟨y117, y124, y131, x132⟩ := t
  obtain ⟨A118, c119, e120, A125, c126, e127, A129, c130, rfl, C193⟩ := h
  rw [e27_body1 n]
  unfold pb27_2
  refine Rf.gen fun H Q hH hQ => ?_
  try dsimp only
  refine Rf.ite ?_ ?_
  · refine Rf.asSl ?_
    refine Rf.elt (r := rS) (C193.srG m0) rfl fun x195 i196 o197 c198 r199 h200 => ?_
    obtain rfl := rS_elim r199
    refine Rf.ldS (h200.at 0 rfl) ?_
    refine Rf.call0 C193 (t23 n x195 (⟨#[61]⟩ : ByteArray) s192 (C193.gl rfl gl0)) ?_
    rintro r202 _ s203 rfl h207
    have C208 : Cx s0.next [] [] s0 s203 [] [(On.mk (rP (rI .i64) (rP (rP rB (rL (rI .u32))) (rP (rP rB (rL (rI .u32))) (rP rS (rI .i64))))) y124 A125 c126 26 false e127), (On.mk (rX 3) y117 A118 c119 67 false e120)] [(Fa.sr rS A129 c130 y131)] := h207 [] (by simp) List.Pairwise.nil
    refine (Rf.asTup (Rf.unc (Rf.asS (Rf.unc (Rf.asS (Rf.unc (Rf.asB (Rf.unn ?_))))))))
    refine Rf.new C208 fun s209 (C210 : Cx s0.next [] [] s0 s209 [(s203.next, AObj.box 67 [(Value.int .i64 0), (Value.string ByteArray.empty), (Value.slice none 0 0)])] [(On.mk (rP (rI .i64) (rP (rP rB (rL (rI .u32))) (rP (rP rB (rL (rI .u32))) (rP rS (rI .i64))))) y124 A125 c126 26 false e127), (On.mk (rX 3) y117 A118 c119 67 false e120)] [(Fa.sr rS A129 c130 y131)]) => ?_
    refine Rf.sto 0 C210 rfl (by simp) rfl fun s212 (C213 : Cx s0.next [] [] s0 s212 [(s203.next, AObj.box 67 [(Value.int .i64 0), (Value.string r202.1), (Value.slice none 0 0)])] [(On.mk (rP (rI .i64) (rP (rP rB (rL (rI .u32))) (rP (rP rB (rL (rI .u32))) (rP rS (rI .i64))))) y124 A125 c126 26 false e127), (On.mk (rX 3) y117 A118 c119 67 false e120)] [(Fa.sr rS A129 c130 y131)]) => ?_
    refine Rf.pj fun J256 J256' hJ256 hJ256' => ?_
    have J256h : ∀ (e271 : Value) (A259 : Option Addr) (c260 : Nat) (e261 : Nat) (A266 : Option Addr) (c267 : Nat) (e268 : Nat) (y258 : (List (Int × (Bool × (List Int)) × (Bool × (List Int)) × ByteArray × Int))) (y265 : (List Unit)) (s272 : St) (_ : Cx s0.next [] [] s0 s272 [(s203.next, AObj.box 67 [(Value.int .i64 0), (Value.string r202.1), (Value.slice A266 (y265).length c267)])] [(On.mk (rX 15) y265 A266 c267 74 true e268), (On.mk (rP (rI .i64) (rP (rP rB (rL (rI .u32))) (rP (rP rB (rL (rI .u32))) (rP rS (rI .i64))))) y258 A259 c260 26 false e261), (On.mk (rX 3) y117 A118 c119 67 false e120)] [(Fa.sr rS A129 c130 y131)]), Rf (J256 y258 y265) H Q (J256' (Value.slice A259 (y258).length c260) e271 s272) := by
      subst hJ256
      subst hJ256'
      intro e271 A259 c260 e261 A266 c267 e268 y258 y265 s272 C273
      refine Rf.ldI (C273.at m0 rfl) ?_
      refine Rf.ldS (C273.at m0 rfl) ?_
      refine Rf.ldSl (C273.at m0 rfl) ?_
      refine Rf.newR (r := (rX 3)) (xs := [()]) C273 rfl (many.cons (c := [(Value.int .i64 0), (Value.string r202.1), (Value.slice A266 (y265).length c267)]) (rX_mk rfl rfl) many.nil) fun s277 (C278 : Cx s0.next [] [] s0 s277 [(s203.next, AObj.box 67 [(Value.int .i64 0), (Value.string r202.1), (Value.slice A266 (y265).length c267)])] [(On.mk (rX 3) [()] (some ⟨s272.next, 0, none⟩) 1 67 false s272.next), (On.mk (rX 15) y265 A266 c267 74 true e268), (On.mk (rP (rI .i64) (rP (rP rB (rL (rI .u32))) (rP (rP rB (rL (rI .u32))) (rP rS (rI .i64))))) y258 A259 c260 26 false e261), (On.mk (rX 3) y117 A118 c119 67 false e120)] [(Fa.sr rS A129 c130 y131)]) => ?_
      refine Rf.kapp 3 C278 rfl rfl (by decide) (by decide) (Ap.sr u48 rfl (C278.srB m0)) fun A280 c281 e282 s285 (C286 : Cx s0.next [] [] s0 s285 [(s203.next, AObj.box 67 [(Value.int .i64 0), (Value.string r202.1), (Value.slice A266 (y265).length c267)])] [(On.mk (rX 3) [()] (some ⟨s272.next, 0, none⟩) 1 67 false s272.next), (On.mk (rX 15) y265 A266 c267 74 true e268), (On.mk (rP (rI .i64) (rP (rP rB (rL (rI .u32))) (rP (rP rB (rL (rI .u32))) (rP rS (rI .i64))))) y258 A259 c260 26 false e261), (On.mk (rX 3) (y117 ++ [()]) A280 c281 67 false e282)] [(Fa.sr rS A129 c130 y131)]) => ?_
      have C287 : Cx s0.next [] [] s0 s285 [(s203.next, AObj.box 67 [(Value.int .i64 0), (Value.string r202.1), (Value.slice A266 (y265).length c267)])] [(On.mk (rX 15) y265 A266 c267 74 true e268), (On.mk (rP (rI .i64) (rP (rP rB (rL (rI .u32))) (rP (rP rB (rL (rI .u32))) (rP rS (rI .i64))))) y258 A259 c260 26 false e261), (On.mk (rX 3) (y117 ++ [()]) A280 c281 67 false e282)] [(Fa.sr rS A129 c130 y131)] := C286.sub (List.Sublist.refl _) (List.Sublist.cons _ (List.Sublist.cons_cons _ (List.Sublist.cons_cons _ (List.Sublist.cons_cons _ List.Sublist.slnil)))) (List.Sublist.refl _)
      subst hH; subst hQ
      exact Rf.leaf fun h => h _ _ _ ⟨rfl, _, _, _, _, _, _, _, _, rfl, (C287.sub (List.Sublist.cons _ List.Sublist.slnil) (List.Sublist.cons _ (List.Sublist.cons_cons _ (List.Sublist.cons_cons _ List.Sublist.slnil))) (List.Sublist.refl _))⟩
    clear hJ256 hJ256'
    refine Rf.ite ?_ ?_
    · refine Rf.kmake (r := (rX 15)) (z := ()) (zc := [(Value.int .i64 0), (Value.int .i64 0), (Value.int .i64 0), (Value.bool false), (Value.slice none 0 0), (Value.bool false), (Value.slice none 0 0), (Value.string ByteArray.empty), (Value.int .i64 0), (Value.string ByteArray.empty), (Value.int .i64 0), (Value.slice none 0 0), (Value.slice none 0 0), (Value.slice none 0 0), (Value.slice none 0 0)]) C213 u65 (by kernel_rfl) (by kernel_rfl) (fun _ => (rX_mk rfl rfl)) (by decide) fun s214 (C215 : Cx s0.next [] [] s0 s214 [(s203.next, AObj.box 67 [(Value.int .i64 0), (Value.string r202.1), (Value.slice none 0 0)])] [(On.mk (rX 15) (List.replicate (Int.toNat 1) ()) (some ⟨s212.next, 0, none⟩) (Int.toNat 1) 74 true s212.next), (On.mk (rP (rI .i64) (rP (rP rB (rL (rI .u32))) (rP (rP rB (rL (rI .u32))) (rP rS (rI .i64))))) y124 A125 c126 26 false e127), (On.mk (rX 3) y117 A118 c119 67 false e120)] [(Fa.sr rS A129 c130 y131)]) => ?_
      refine Rf.ifp rfl ?_
      refine Rf.sto 0 C215 rfl (by simp) rfl fun s221 (C222 : Cx s0.next [] [] s0 s221 [(s203.next, AObj.box 67 [(Value.int .i64 0), (Value.string r202.1), (Value.slice (some ⟨s212.next, 0, none⟩) ((List.replicate (Int.toNat 1) ())).length (Int.toNat 1))])] [(On.mk (rX 15) (List.replicate (Int.toNat 1) ()) (some ⟨s212.next, 0, none⟩) (Int.toNat 1) 74 true s212.next), (On.mk (rP (rI .i64) (rP (rP rB (rL (rI .u32))) (rP (rP rB (rL (rI .u32))) (rP rS (rI .i64))))) y124 A125 c126 26 false e127), (On.mk (rX 3) y117 A118 c119 67 false e120)] [(Fa.sr rS A129 c130 y131)]) => ?_
      refine Rf.call0 C222 (t43 n 0 s221 (C222.gl rfl gl0)) ?_
      rintro r223 _ s224 ⟨A225, c226, A229, c230, rfl, h227, h231⟩ h240
      have C241 : Cx s0.next [] [] s0 s224 [(s203.next, AObj.box 67 [(Value.int .i64 0), (Value.string r202.1), (Value.slice (some ⟨s212.next, 0, none⟩) ((List.replicate (Int.toNat 1) ())).length (Int.toNat 1))])] [(On.mk (rX 15) (List.replicate (Int.toNat 1) ()) (some ⟨s212.next, 0, none⟩) (Int.toNat 1) 74 true s212.next), (On.mk (rP (rI .i64) (rP (rP rB (rL (rI .u32))) (rP (rP rB (rL (rI .u32))) (rP rS (rI .i64))))) y124 A125 c126 26 false e127), (On.mk (rX 3) y117 A118 c119 67 false e120)] [(Fa.sr rS A129 c130 y131)] := h240 [] (by simp) List.Pairwise.nil
      have C242 := C241.add (Fa.sr (rI .u32) A225 c226 r223.2.1.2) h227
      have C243 := C242.add (Fa.sr (rI .u32) A229 c230 r223.2.2.1.2) h231
      refine (Rf.asAgg (Rf.unc (Rf.asI (Rf.unc (Rf.asB (Rf.unc (Rf.asSl (Rf.unc (Rf.asB (Rf.unc (Rf.asSl (Rf.unc (Rf.asS (Rf.unc (Rf.asI (Rf.unn ?_))))))))))))))))
      refine Rf.newR (r := (rP (rI .i64) (rP (rP rB (rL (rI .u32))) (rP (rP rB (rL (rI .u32))) (rP rS (rI .i64)))))) (xs := [(r223.1, (r223.2.1.1, r223.2.1.2), (r223.2.2.1.1, r223.2.2.1.2), r223.2.2.2.1, r223.2.2.2.2)]) C243 rfl (many.cons (c := [(Value.int .i64 r223.1), (Value.bool r223.2.1.1), (Value.slice A225 (r223.2.1.2).length c226), (Value.bool r223.2.2.1.1), (Value.slice A229 (r223.2.2.1.2).length c230), (Value.string r223.2.2.2.1), (Value.int .i64 r223.2.2.2.2)]) (rP_mk rI_mk (rP_mk (rP_mk rB_mk (rL_mk (C243.srG m1))) (rP_mk (rP_mk rB_mk (rL_mk (C243.srG m0))) (rP_mk rS_mk rI_mk)))) many.nil) fun s244 (C245 : Cx s0.next [] [] s0 s244 [(s203.next, AObj.box 67 [(Value.int .i64 0), (Value.string r202.1), (Value.slice (some ⟨s212.next, 0, none⟩) ((List.replicate (Int.toNat 1) ())).length (Int.toNat 1))])] [(On.mk (rP (rI .i64) (rP (rP rB (rL (rI .u32))) (rP (rP rB (rL (rI .u32))) (rP rS (rI .i64))))) [(r223.1, (r223.2.1.1, r223.2.1.2), (r223.2.2.1.1, r223.2.2.1.2), r223.2.2.2.1, r223.2.2.2.2)] (some ⟨s224.next, 0, none⟩) 1 26 false s224.next), (On.mk (rX 15) (List.replicate (Int.toNat 1) ()) (some ⟨s212.next, 0, none⟩) (Int.toNat 1) 74 true s212.next), (On.mk (rP (rI .i64) (rP (rP rB (rL (rI .u32))) (rP (rP rB (rL (rI .u32))) (rP rS (rI .i64))))) y124 A125 c126 26 false e127), (On.mk (rX 3) y117 A118 c119 67 false e120)] [(Fa.sr (rI .u32) A229 c230 r223.2.2.1.2), (Fa.sr (rI .u32) A225 c226 r223.2.1.2), (Fa.sr rS A129 c130 y131)]) => ?_
      refine Rf.kapp 2 C245 rfl rfl (by decide) (by decide) (Ap.sr u49 rfl (C245.srB m0)) fun A247 c248 e249 s252 (C253 : Cx s0.next [] [] s0 s252 [(s203.next, AObj.box 67 [(Value.int .i64 0), (Value.string r202.1), (Value.slice (some ⟨s212.next, 0, none⟩) ((List.replicate (Int.toNat 1) ())).length (Int.toNat 1))])] [(On.mk (rP (rI .i64) (rP (rP rB (rL (rI .u32))) (rP (rP rB (rL (rI .u32))) (rP rS (rI .i64))))) [(r223.1, (r223.2.1.1, r223.2.1.2), (r223.2.2.1.1, r223.2.2.1.2), r223.2.2.2.1, r223.2.2.2.2)] (some ⟨s224.next, 0, none⟩) 1 26 false s224.next), (On.mk (rX 15) (List.replicate (Int.toNat 1) ()) (some ⟨s212.next, 0, none⟩) (Int.toNat 1) 74 true s212.next), (On.mk (rP (rI .i64) (rP (rP rB (rL (rI .u32))) (rP (rP rB (rL (rI .u32))) (rP rS (rI .i64))))) (y124 ++ ([(r223.1, (r223.2.1.1, r223.2.1.2), (r223.2.2.1.1, r223.2.2.1.2), r223.2.2.2.1, r223.2.2.2.2)] : List (Int × (Bool × (List Int)) × (Bool × (List Int)) × ByteArray × Int))) A247 c248 26 false e249), (On.mk (rX 3) y117 A118 c119 67 false e120)] [(Fa.sr (rI .u32) A229 c230 r223.2.2.1.2), (Fa.sr (rI .u32) A225 c226 r223.2.1.2), (Fa.sr rS A129 c130 y131)]) => ?_
      have C254 : Cx s0.next [] [] s0 s252 [(s203.next, AObj.box 67 [(Value.int .i64 0), (Value.string r202.1), (Value.slice (some ⟨s212.next, 0, none⟩) ((List.replicate (Int.toNat 1) ())).length (Int.toNat 1))])] [(On.mk (rX 15) (List.replicate (Int.toNat 1) ()) (some ⟨s212.next, 0, none⟩) (Int.toNat 1) 74 true s212.next), (On.mk (rP (rI .i64) (rP (rP rB (rL (rI .u32))) (rP (rP rB (rL (rI .u32))) (rP rS (rI .i64))))) (y124 ++ ([(r223.1, (r223.2.1.1, r223.2.1.2), (r223.2.2.1.1, r223.2.2.1.2), r223.2.2.2.1, r223.2.2.2.2)] : List (Int × (Bool × (List Int)) × (Bool × (List Int)) × ByteArray × Int))) A247 c248 26 false e249), (On.mk (rX 3) y117 A118 c119 67 false e120)] [(Fa.sr (rI .u32) A229 c230 r223.2.2.1.2), (Fa.sr (rI .u32) A225 c226 r223.2.1.2), (Fa.sr rS A129 c130 y131)] := C253.sub (List.Sublist.refl _) (List.Sublist.cons _ (List.Sublist.cons_cons _ (List.Sublist.cons_cons _ (List.Sublist.cons_cons _ List.Sublist.slnil)))) (List.Sublist.refl _)
      exact J256h _ A247 c248 e249 (some ⟨s212.next, 0, none⟩) (Int.toNat 1) s212.next (y124 ++ ([(r223.1, (r223.2.1.1, r223.2.1.2), (r223.2.2.1.1, r223.2.2.1.2), r223.2.2.2.1, r223.2.2.2.2)] : List (Int × (Bool × (List Int)) × (Bool × (List Int)) × ByteArray × Int))) (List.replicate (Int.toNat 1) ()) _ (C254.sub (List.Sublist.refl _) (List.Sublist.refl _) (List.Sublist.cons _ (List.Sublist.cons _ (List.Sublist.cons_cons _ List.Sublist.slnil))))
    · have C262 : Cx s0.next [] [] s0 s212 [(s203.next, AObj.box 67 [(Value.int .i64 0), (Value.string r202.1), (Value.slice none 0 0)])] [(On.mk (rX 15) ([] : List Unit) none 0 74 true 0), (On.mk (rP (rI .i64) (rP (rP rB (rL (rI .u32))) (rP (rP rB (rL (rI .u32))) (rP rS (rI .i64))))) y124 A125 c126 26 false e127), (On.mk (rX 3) y117 A118 c119 67 false e120)] [(Fa.sr rS A129 c130 y131)] := C213.addNilW (rX 15) 74
      exact J256h _ A125 c126 e127 none 0 0 y124 ([] : List Unit) _ (C262.sub (List.Sublist.refl _) (List.Sublist.refl _) (List.Sublist.refl _))
  · subst hH; subst hQ
    exact Rf.leaf fun h => h _ _ _ ⟨_, _, _, _, _, _, _, _, rfl, rfl, (C193.sub (List.Sublist.refl _) (List.Sublist.refl _) (List.Sublist.refl _))⟩
abbrev Inv27_1 (s0 : St) (p0 : ByteArray) (gl0 : GlobOk s0) (A3 : Option Addr) (c4 : Nat) (e6 : Nat) (r1 : (List ByteArray)) (t : Int) (g : Regs) (s : St) : Prop := g = (rg 59 [(0, (Value.string p0)), (16, (Value.slice A3 (r1).length c4)), (17, (Value.int .i64 ((r1).length : Nat))), (18, (Value.int .i64 t))]) ∧ Cx s0.next [] [] s0 s [] [(On.mk rS r1 A3 c4 9 true e6)] []
abbrev Ex27_1 (s0 : St) (p0 : ByteArray) (gl0 : GlobOk s0) (A3 : Option Addr) (c4 : Nat) (e6 : Nat) (r1 : (List ByteArray)) (t : (Int ⊕ ((List Unit) × (List (Int × (Bool × (List Int)) × (Bool × (List Int)) × ByteArray × Int))))) (e : X) (g : Regs) (s : St) : Prop := match t with
  | (.inl t) => e = .exit 0 ∧ g = (rg 59 [(0, (Value.string p0)), (16, (Value.slice A3 (r1).length c4)), (17, (Value.int .i64 ((r1).length : Nat))), (18, (Value.int .i64 t)), (19, (Value.bool false))]) ∧ Cx s0.next [] [] s0 s [] [(On.mk rS r1 A3 c4 9 true e6)] []
  | (.inr t) => ∃ (A369 : Option Addr) (c370 : Nat) (e371 : Nat) (A374 : Option Addr) (c375 : Nat) (e376 : Nat), e = .ret ∧ g = (rg 59 [(2, (Value.slice A369 (t.1).length c370)), (3, (Value.slice A374 (t.2).length c375)), (4, (Value.bool true))]) ∧ Cx s0.next [] [] s0 s [] [(On.mk (rP (rI .i64) (rP (rP rB (rL (rI .u32))) (rP (rP rB (rL (rI .u32))) (rP rS (rI .i64))))) t.2 A374 c375 26 false e376), (On.mk (rX 3) t.1 A369 c370 67 false e371)] []
theorem x27_1 (s0 : St) (p0 : ByteArray) (gl0 : GlobOk s0) (A3 : Option Addr) (c4 : Nat) (e6 : Nat) (r1 : (List ByteArray)) (t : (Int ⊕ ((List Unit) × (List (Int × (Bool × (List Int)) × (Bool × (List Int)) × ByteArray × Int))))) (e : X) (g : Regs) (s : St) (h : Ex27_1 s0 p0 gl0 A3 c4 e6 r1 t e g s) : e ≠ .normal := by
  rcases t with t | t
  · obtain ⟨h, _⟩ := h
    rw [h]; intro hh; cases hh
  · obtain ⟨_, _, _, _, _, _, h, _⟩ := h
    rw [h]; intro hh; cases hh
def pb27_1 (n : Nat) (p0 : ByteArray) (r1 : (List ByteArray)) (t : Int) : Option (Int ⊕ (Int ⊕ ((List Unit) × (List (Int × (Bool × (List Int)) × (Bool × (List Int)) × ByteArray × Int))))) :=
  (if (decide ((t : Int) < ((r1).length : Nat))) then ((rd r1 t (fun x74 => ((p42 n x74).bind fun r85 => (rd r85 0 (fun x95 => (if (!(x95.toList == p0.toList)) then ((((some (.inl (IntKind.wrap .i64 (t + 1))))))) else ((((slP r85 1 ((r85).length : Nat) (fun y110 => ((loopP (pb27_2 n y110) n (([] : List Unit), ([] : List (Int × (Bool × (List Int)) × (Bool × (List Int)) × ByteArray × Int)), y110, 0)).bind fun t304 => ((some (.inr (.inr (t304.1, t304.2.1)))))))))))))))))) else (((some (.inr (.inl t))))))
theorem b27_1 (n : Nat) (s0 : St) (p0 : ByteArray) (gl0 : GlobOk s0) (A3 : Option Addr) (c4 : Nat) (e6 : Nat) (r1 : (List ByteArray)) (x11 : Int) (g : Regs) (s71 : St) (K : Kont) (Q : Out → St → Prop) (h : Inv27_1 s0 p0 gl0 A3 c4 e6 r1 x11 g s71) :
    Rf (pb27_1 n p0 r1 x11) (fun r => ∀ e g' s', LK (Inv27_1 s0 p0 gl0 A3 c4 e6 r1) (Ex27_1 s0 p0 gl0 A3 c4 e6 r1) r e g' s' → Ev (K e g' s') Q) (fun _ => Q) (kBody E 27 n [.b, .a, .b, .a, .a] g s71 K) := by
  obtain ⟨rfl, C72⟩ := h
  rw [e27_body0 n]
  unfold pb27_1
  refine Rf.gen fun H Q hH hQ => ?_
  refine Rf.ite ?_ ?_
  · refine Rf.eltW (j := 0) C72 rfl rfl rfl fun x74 i75 o76 h77 h78 h79 h80 => ?_
    obtain ⟨c81, r82, h83⟩ := C72.loW (j := 0) rfl h77 h78 h79 h80
    obtain rfl := rS_elim r82
    refine Rf.ldS (h83.at 0 rfl) ?_
    refine Rf.call0 C72 (t42 n x74 s71 (C72.gl rfl gl0)) ?_
    rintro r85 _ s86 ⟨A87, c88, e90, rfl, h89⟩ h93
    have C94 : Cx s0.next [] [] s0 s86 [] [(On.mk rS r85 A87 c88 9 true e90), (On.mk rS r1 A3 c4 9 true e6)] [] := h93 [(On.mk rS r85 A87 c88 9 true e90)] (by simpa using h89) (List.pairwise_singleton _ _)
    refine (Rf.asSl ?_)
    refine Rf.eltW (j := 0) C94 rfl rfl rfl fun x95 i96 o97 h98 h99 h100 h101 => ?_
    obtain ⟨c102, r103, h104⟩ := C94.loW (j := 0) rfl h98 h99 h100 h101
    obtain rfl := rS_elim r103
    refine Rf.ldS (h104.at 0 rfl) ?_
    refine Rf.ite ?_ ?_
    · subst hH; subst hQ
      exact Rf.leaf fun h => h _ _ _ ⟨rfl, rfl, (C94.sub (List.Sublist.refl _) (List.Sublist.cons _ (List.Sublist.cons_cons _ List.Sublist.slnil)) (List.Sublist.refl _))⟩
    · refine Rf.ksl (r := rS) u31 (by kernel_rfl) (C94.srB m0) rfl rfl fun y110 A106 c107 h108 => ?_
      have C111 := C94.add (Fa.sr rS A106 c107 y110) h108
      refine Rf.asSl ?_
      have C114 : Cx s0.next [] [] s0 s86 [] [(On.mk (rX 3) ([] : List Unit) none 0 67 false 0), (On.mk rS r85 A87 c88 9 true e90), (On.mk rS r1 A3 c4 9 true e6)] [(Fa.sr rS A106 c107 y110)] := C111.addNil (rX 3) 67
      have C121 : Cx s0.next [] [] s0 s86 [] [(On.mk (rP (rI .i64) (rP (rP rB (rL (rI .u32))) (rP (rP rB (rL (rI .u32))) (rP rS (rI .i64))))) ([] : List (Int × (Bool × (List Int)) × (Bool × (List Int)) × ByteArray × Int)) none 0 26 false 0), (On.mk (rX 3) ([] : List Unit) none 0 67 false 0), (On.mk rS r85 A87 c88 9 true e90), (On.mk rS r1 A3 c4 9 true e6)] [(Fa.sr rS A106 c107 y110)] := C114.addNil (rP (rI .i64) (rP (rP rB (rL (rI .u32))) (rP (rP rB (rL (rI .u32))) (rP rS (rI .i64))))) 26
      refine Rf.loop (Inv := Inv27_2 s0 p0 gl0 y110) (Ex := Ex27_2 s0 p0 gl0 y110) (x27_2 s0 p0 gl0 y110) (fun t g s K Q h => b27_2 n s0 p0 gl0 y110 t g s K Q h) n _ _ _ ⟨_, _, _, _, _, _, _, _, rfl, (C121.sub (List.Sublist.refl _) (List.Sublist.cons_cons _ (List.Sublist.cons_cons _ (List.Sublist.cons _ (List.Sublist.cons _ List.Sublist.slnil)))) (List.Sublist.refl _))⟩ ?_
      intro t304 e g s364 h
      obtain ⟨A291, c292, e293, A296, c297, e298, A300, c301, rfl, rfl, C365⟩ := h
      rw [e27_after1_exit2 n]
      subst hH; subst hQ
      exact Rf.leaf fun h => h _ _ _ ⟨_, _, _, _, _, _, rfl, rfl, (C365.sub (List.Sublist.refl _) (List.Sublist.refl _) (List.Sublist.cons _ List.Sublist.slnil))⟩
  · subst hH; subst hQ
    exact Rf.leaf fun h => h _ _ _ ⟨rfl, rfl, (C72.sub (List.Sublist.refl _) (List.Sublist.refl _) (List.Sublist.refl _))⟩
abbrev P27 (N : Nat) (X : List Nat) (r : ((List Unit) × (List (Int × (Bool × (List Int)) × (Bool × (List Int)) × ByteArray × Int)) × Bool)) (v : Value) (s : St) : Prop := ∃ (A0 : Option Addr) (c0 : Nat) (e0 : Nat) (A3 : Option Addr) (c3 : Nat), v = (Value.tuple #[(Value.slice A0 (r.1).length c0), (Value.slice A3 (r.2.1).length c3), (Value.bool r.2.2)]) ∧ (On.mk (rX 3) r.1 A0 c0 67 false e0).holds N X s ∧ Sr (rP (rI .i64) (rP (rP rB (rL (rI .u32))) (rP (rP rB (rL (rI .u32))) (rP rS (rI .i64))))) s A3 c3 r.2.1
def p27 : Nat → ByteArray → Option ((List Unit) × (List (Int × (Bool × (List Int)) × (Bool × (List Int)) × ByteArray × Int)) × Bool)
  | 0, _ => none
  | n + 1, p0 => ((p22 n (⟨#[99, 115, 118, 46, 114, 111, 119, 115, 32, 116, 101, 120, 116, 10, 99, 115, 118, 46, 116, 101, 120, 116, 32, 114, 111, 119, 115, 10, 100, 97, 116, 101, 46, 97, 100, 100, 95, 109, 111, 110, 116, 104, 115, 32, 110, 32, 109, 111, 110, 116, 104, 115, 10, 100, 97, 116, 101, 46, 109, 111, 109, 101, 110, 116, 32, 110, 10, 100, 97, 116, 101, 46, 115, 101, 99, 111, 110, 100, 115, 32, 109, 10, 100, 97, 116, 101, 46, 119, 101, 101, 107, 100, 97, 121, 32, 110, 10, 106, 115, 111, 110, 46, 100, 101, 99, 111, 100, 101, 32, 116, 101, 120, 116, 10, 106, 115, 111, 110, 46, 101, 110, 99, 111, 100, 101, 32, 118, 32, 105, 110, 100, 101, 110, 116, 61, 48, 10, 109, 97, 116, 104, 46, 103, 99, 100, 32, 97, 32, 98, 10, 109, 97, 116, 104, 46, 105, 115, 113, 114, 116, 32, 110, 10, 109, 97, 116, 104, 46, 110, 101, 97, 114, 101, 115, 116, 32, 120, 32, 109, 111, 115, 116, 10, 109, 97, 116, 104, 46, 112, 111, 119, 109, 111, 100, 32, 97, 32, 110, 32, 109, 10, 112, 97, 99, 107, 46, 112, 97, 99, 107, 32, 102, 111, 114, 109, 97, 116, 32, 118, 97, 108, 117, 101, 115, 10, 112, 97, 99, 107, 46, 117, 110, 112, 97, 99, 107, 32, 102, 111, 114, 109, 97, 116, 32, 100, 97, 116, 97, 10, 114, 97, 110, 100, 111, 109, 46, 98, 101, 108, 111, 119, 32, 115, 116, 97, 116, 101, 32, 110, 10, 114, 97, 110, 100, 111, 109, 46, 115, 97, 109, 112, 108, 101, 32, 115, 116, 97, 116, 101, 32, 110, 32, 107, 10, 114, 97, 110, 100, 111, 109, 46, 115, 101, 101, 100, 32, 110, 10, 114, 101, 46, 97, 108, 108, 32, 112, 97, 116, 116, 101, 114, 110, 32, 116, 101, 120, 116, 10, 114, 101, 46, 102, 105, 110, 100, 32, 112, 97, 116, 116, 101, 114, 110, 32, 116, 101, 120, 116, 32, 115, 116, 97, 114, 116, 61, 48, 10, 114, 101, 46, 102, 117, 108, 108, 32, 112, 97, 116, 116, 101, 114, 110, 32, 116, 101, 120, 116, 10, 114, 101, 46, 114, 101, 112, 108, 97, 99, 101, 32, 112, 97, 116, 116, 101, 114, 110, 32, 116, 101, 120, 116, 32, 119, 105, 116, 104, 10, 114, 101, 46, 115, 112, 108, 105, 116, 32, 112, 97, 116, 116, 101, 114, 110, 32, 116, 101, 120, 116]⟩ : ByteArray) (⟨#[10]⟩ : ByteArray)).bind fun r1 => ((loopP (pb27_1 n p0 r1) n 0).bind fun t501 => match t501 with | (.inl t377) => ((some ((([] : (List Unit)), ([] : (List (Int × (Bool × (List Int)) × (Bool × (List Int)) × ByteArray × Int))), false) : ((List Unit) × (List (Int × (Bool × (List Int)) × (Bool × (List Int)) × ByteArray × Int)) × Bool)))) | (.inr t439) => (some ((t439.1, t439.2, true) : ((List Unit) × (List (Int × (Bool × (List Int)) × (Bool × (List Int)) × ByteArray × Int)) × Bool)))))
theorem t27 (k : Nat) (p0 : ByteArray) (s0 : St) (gl0 : GlobOk s0) :
    Rf (p27 k p0) (fun _ => True) (fun r => RtC s0.next [] [] s0 (P27 s0.next [] r)) (acall E k 27 [(Value.string p0)] s0) := by
  cases k with
  | zero => exact Rf.none
  | succ n =>
    rw [e27 n]
    rw [p27]
    refine Rf.gen fun H Q hH hQ => ?_
    have C0 : Cx s0.next [] [] s0 s0 [] [] [] := Cx.start s0
    refine Rf.call0 C0 (t22 n (⟨#[99, 115, 118, 46, 114, 111, 119, 115, 32, 116, 101, 120, 116, 10, 99, 115, 118, 46, 116, 101, 120, 116, 32, 114, 111, 119, 115, 10, 100, 97, 116, 101, 46, 97, 100, 100, 95, 109, 111, 110, 116, 104, 115, 32, 110, 32, 109, 111, 110, 116, 104, 115, 10, 100, 97, 116, 101, 46, 109, 111, 109, 101, 110, 116, 32, 110, 10, 100, 97, 116, 101, 46, 115, 101, 99, 111, 110, 100, 115, 32, 109, 10, 100, 97, 116, 101, 46, 119, 101, 101, 107, 100, 97, 121, 32, 110, 10, 106, 115, 111, 110, 46, 100, 101, 99, 111, 100, 101, 32, 116, 101, 120, 116, 10, 106, 115, 111, 110, 46, 101, 110, 99, 111, 100, 101, 32, 118, 32, 105, 110, 100, 101, 110, 116, 61, 48, 10, 109, 97, 116, 104, 46, 103, 99, 100, 32, 97, 32, 98, 10, 109, 97, 116, 104, 46, 105, 115, 113, 114, 116, 32, 110, 10, 109, 97, 116, 104, 46, 110, 101, 97, 114, 101, 115, 116, 32, 120, 32, 109, 111, 115, 116, 10, 109, 97, 116, 104, 46, 112, 111, 119, 109, 111, 100, 32, 97, 32, 110, 32, 109, 10, 112, 97, 99, 107, 46, 112, 97, 99, 107, 32, 102, 111, 114, 109, 97, 116, 32, 118, 97, 108, 117, 101, 115, 10, 112, 97, 99, 107, 46, 117, 110, 112, 97, 99, 107, 32, 102, 111, 114, 109, 97, 116, 32, 100, 97, 116, 97, 10, 114, 97, 110, 100, 111, 109, 46, 98, 101, 108, 111, 119, 32, 115, 116, 97, 116, 101, 32, 110, 10, 114, 97, 110, 100, 111, 109, 46, 115, 97, 109, 112, 108, 101, 32, 115, 116, 97, 116, 101, 32, 110, 32, 107, 10, 114, 97, 110, 100, 111, 109, 46, 115, 101, 101, 100, 32, 110, 10, 114, 101, 46, 97, 108, 108, 32, 112, 97, 116, 116, 101, 114, 110, 32, 116, 101, 120, 116, 10, 114, 101, 46, 102, 105, 110, 100, 32, 112, 97, 116, 116, 101, 114, 110, 32, 116, 101, 120, 116, 32, 115, 116, 97, 114, 116, 61, 48, 10, 114, 101, 46, 102, 117, 108, 108, 32, 112, 97, 116, 116, 101, 114, 110, 32, 116, 101, 120, 116, 10, 114, 101, 46, 114, 101, 112, 108, 97, 99, 101, 32, 112, 97, 116, 116, 101, 114, 110, 32, 116, 101, 120, 116, 32, 119, 105, 116, 104, 10, 114, 101, 46, 115, 112, 108, 105, 116, 32, 112, 97, 116, 116, 101, 114, 110, 32, 116, 101, 120, 116]⟩ : ByteArray) (⟨#[10]⟩ : ByteArray) s0 (C0.gl rfl gl0)) ?_
    rintro r1 _ s2 ⟨A3, c4, e6, rfl, h5⟩ h9
    have C10 : Cx s0.next [] [] s0 s2 [] [(On.mk rS r1 A3 c4 9 true e6)] [] := h9 [(On.mk rS r1 A3 c4 9 true e6)] (by simpa using h5) (List.pairwise_singleton _ _)
    refine (Rf.asSl ?_)
    refine Rf.loop (Inv := Inv27_1 s0 p0 gl0 A3 c4 e6 r1) (Ex := Ex27_1 s0 p0 gl0 A3 c4 e6 r1) (x27_1 s0 p0 gl0 A3 c4 e6 r1) (fun t g s K Q h => b27_1 n s0 p0 gl0 A3 c4 e6 r1 t g s K Q h) n _ _ _ ⟨rfl, (C10.sub (List.Sublist.refl _) (List.Sublist.refl _) (List.Sublist.refl _))⟩ ?_
    intro t e g s h
    rcases t with t377 | t439
    · generalize s = s437 at h ⊢
      obtain ⟨rfl, rfl, C438⟩ := h
      rw [e27_after0_exit0 n]
      subst hH; subst hQ
      exact Rf.leaf fun _ => Ev.done (Rf.ret C438 ⟨none, 0, 0, _, _, rfl, .inl ⟨rfl, rfl, rfl⟩, Sr.nil⟩)
    · generalize s = s499 at h ⊢
      obtain ⟨A369, c370, e371, A374, c375, e376, rfl, rfl, C500⟩ := h
      rw [e27_after0_ret n]
      subst hH; subst hQ
      exact Rf.leaf fun _ => Ev.done (Rf.ret C500 ⟨_, _, _, _, _, rfl, C500.own _ m1, (C500.srB m0)⟩)
-- 10 "brindlewood/bridge.Has"
abbrev P10 (N : Nat) (X : List Nat) (r : Bool) (v : Value) (s : St) : Prop := v = (Value.bool r)
def p10 : Nat → ByteArray → Option Bool
  | 0, _ => none
  | n + 1, p0 => ((p27 n p0).bind fun r1 => ((some (r1.2.2 : Bool))))
theorem t10 (k : Nat) (p0 : ByteArray) (s0 : St) (gl0 : GlobOk s0) :
    Rf (p10 k p0) (fun _ => True) (fun r => RtC s0.next [] [] s0 (P10 s0.next [] r)) (acall E k 10 [(Value.string p0)] s0) := by
  cases k with
  | zero => exact Rf.none
  | succ n =>
    rw [e10 n]
    rw [p10]
    refine Rf.gen fun H Q hH hQ => ?_
    have C0 : Cx s0.next [] [] s0 s0 [] [] [] := Cx.start s0
    refine Rf.call0 C0 (t27 n p0 s0 (C0.gl rfl gl0)) ?_
    rintro r1 _ s2 ⟨A3, c4, e6, A8, c9, rfl, h5, h10⟩ h15
    have C16 : Cx s0.next [] [] s0 s2 [] [(On.mk (rX 3) r1.1 A3 c4 67 false e6)] [] := h15 [(On.mk (rX 3) r1.1 A3 c4 67 false e6)] (by simpa using h5) (List.pairwise_singleton _ _)
    have C17 := C16.add (Fa.sr (rP (rI .i64) (rP (rP rB (rL (rI .u32))) (rP (rP rB (rL (rI .u32))) (rP rS (rI .i64))))) A8 c9 r1.2.1) h10
    refine (Rf.asTup (Rf.unc (Rf.asSl (Rf.unc (Rf.asSl (Rf.unc (Rf.asB (Rf.unn ?_))))))))
    subst hH; subst hQ
    exact Rf.leaf fun _ => Ev.done (Rf.ret C17 rfl)
-- 11 "brindlewood/brindlewoodref8.InLibrary"
abbrev P11 (N : Nat) (X : List Nat) (r : Bool) (v : Value) (s : St) : Prop := v = (Value.bool r)
def p11 : Nat → ByteArray → Option Bool
  | 0, _ => none
  | n + 1, p0 => ((p23 n p0 (⟨#[46]⟩ : ByteArray)).bind fun r1 => (pj (fun (b24 : Bool) => some (b24 : Bool)) (fun J23 => if r1.2.2 then ((p26 n r1.1).bind fun r8 => (p14 n r8 r1.2.1).bind fun r18 => (J23 r18)) else ((J23 false)))))
theorem t11 (k : Nat) (p0 : ByteArray) (s0 : St) (gl0 : GlobOk s0) :
    Rf (p11 k p0) (fun _ => True) (fun r => RtC s0.next [] [] s0 (P11 s0.next [] r)) (acall E k 11 [(Value.string p0)] s0) := by
  cases k with
  | zero => exact Rf.none
  | succ n =>
    rw [e11 n]
    rw [p11]
    refine Rf.gen fun H Q hH hQ => ?_
    have C0 : Cx s0.next [] [] s0 s0 [] [] [] := Cx.start s0
    refine Rf.call0 C0 (t23 n p0 (⟨#[46]⟩ : ByteArray) s0 (C0.gl rfl gl0)) ?_
    rintro r1 _ s2 rfl h6
    have C7 : Cx s0.next [] [] s0 s2 [] [] [] := h6 [] (by simp) List.Pairwise.nil
    refine (Rf.asTup (Rf.unc (Rf.asS (Rf.unc (Rf.asS (Rf.unc (Rf.asB (Rf.unn ?_))))))))
    refine Rf.pj fun J23 J23' hJ23 hJ23' => ?_
    have J23h : ∀ (b24 : Bool) (s26 : St) (_ : Cx s0.next [] [] s0 s26 [] [] []), Rf (J23 b24) H Q (J23' b24 s26) := by
      subst hJ23
      subst hJ23'
      intro b24 s26 C27
      subst hH; subst hQ
      exact Rf.leaf fun _ => Ev.done (Rf.ret C27 rfl)
    clear hJ23 hJ23'
    refine Rf.ite ?_ ?_
    · refine Rf.call0 C7 (t26 n r1.1 s2 (C7.gl rfl gl0)) ?_
      rintro r8 _ s9 ⟨A10, c11, e13, rfl, h12⟩ h16
      have C17 : Cx s0.next [] [] s0 s9 [] [(On.mk rS r8 A10 c11 9 false e13)] [] := h16 [(On.mk rS r8 A10 c11 9 false e13)] (by simpa using h12) (List.pairwise_singleton _ _)
      refine (Rf.asSl ?_)
      refine Rf.call0 C17 (t14 n r8 r1.2.1 s9 (C17.gl rfl gl0) (C17.srB m0)) ?_
      rintro r18 _ s19 rfl h21
      have C22 : Cx s0.next [] [] s0 s19 [] [(On.mk rS r8 A10 c11 9 false e13)] [] := h21 [] (by simp) List.Pairwise.nil
      refine (Rf.asB ?_)
      exact J23h r18 _ (C22.sub (List.Sublist.refl _) (List.Sublist.cons _ List.Sublist.slnil) (List.Sublist.refl _))
    · exact J23h false _ (C7.sub (List.Sublist.refl _) (List.Sublist.refl _) (List.Sublist.refl _))
-- 36 "slices.Equal[[]uint32,uint32]"
abbrev Inv36_1 (s0 : St) (p0 : (List Int)) (p1 : (List Int)) (A0 : Option Addr) (c0 : Nat) (A1 : Option Addr) (c1 : Nat) (gl0 : GlobOk s0) (h0 : Sr (rI .u32) s0 A0 c0 p0) (h1 : Sr (rI .u32) s0 A1 c1 p1)  (t : Int) (g : Regs) (s : St) : Prop := g = (rg 26 [(0, (Value.slice A0 (p0).length c0)), (1, (Value.slice A1 (p1).length c1)), (12, (Value.int .i64 ((p0).length : Nat))), (13, (Value.int .i64 t))]) ∧ Cx s0.next [] [] s0 s [] [] []
abbrev Ex36_1 (s0 : St) (p0 : (List Int)) (p1 : (List Int)) (A0 : Option Addr) (c0 : Nat) (A1 : Option Addr) (c1 : Nat) (gl0 : GlobOk s0) (h0 : Sr (rI .u32) s0 A0 c0 p0) (h1 : Sr (rI .u32) s0 A1 c1 p1)  (t : (Int ⊕ Unit)) (e : X) (g : Regs) (s : St) : Prop := match t with
  | (.inl t) => e = .exit 0 ∧ g = (rg 26 [(0, (Value.slice A0 (p0).length c0)), (1, (Value.slice A1 (p1).length c1)), (12, (Value.int .i64 ((p0).length : Nat))), (13, (Value.int .i64 t)), (14, (Value.bool false))]) ∧ Cx s0.next [] [] s0 s [] [] []
  | (.inr t) => e = .ret ∧ g = (rg 26 [(4, (Value.bool false))]) ∧ Cx s0.next [] [] s0 s [] [] []
theorem x36_1 (s0 : St) (p0 : (List Int)) (p1 : (List Int)) (A0 : Option Addr) (c0 : Nat) (A1 : Option Addr) (c1 : Nat) (gl0 : GlobOk s0) (h0 : Sr (rI .u32) s0 A0 c0 p0) (h1 : Sr (rI .u32) s0 A1 c1 p1)  (t : (Int ⊕ Unit)) (e : X) (g : Regs) (s : St) (h : Ex36_1 s0 p0 p1 A0 c0 A1 c1 gl0 h0 h1  t e g s) : e ≠ .normal := by
  rcases t with t | t
  · obtain ⟨h, _⟩ := h
    rw [h]; intro hh; cases hh
  · obtain ⟨h, _⟩ := h
    rw [h]; intro hh; cases hh
def pb36_1 (n : Nat) (p0 : (List Int)) (p1 : (List Int)) (t : Int) : Option (Int ⊕ (Int ⊕ Unit)) :=
  (if (decide ((t : Int) < ((p0).length : Nat))) then (((rd p0 t (fun x31 => rd p1 t (fun x38 => (if ((x31 : Int) != x38) then ((((some (.inr (.inr ())))))) else (((some (.inl (IntKind.wrap .i64 (t + 1)))))))))))) else (((some (.inr (.inl t))))))
theorem b36_1 (n : Nat) (s0 : St) (p0 : (List Int)) (p1 : (List Int)) (A0 : Option Addr) (c0 : Nat) (A1 : Option Addr) (c1 : Nat) (gl0 : GlobOk s0) (h0 : Sr (rI .u32) s0 A0 c0 p0) (h1 : Sr (rI .u32) s0 A1 c1 p1)  (x1 : Int) (g : Regs) (s28 : St) (K : Kont) (Q : Out → St → Prop) (h : Inv36_1 s0 p0 p1 A0 c0 A1 c1 gl0 h0 h1  x1 g s28) :
    Rf (pb36_1 n p0 p1 x1) (fun r => ∀ e g' s', LK (Inv36_1 s0 p0 p1 A0 c0 A1 c1 gl0 h0 h1 ) (Ex36_1 s0 p0 p1 A0 c0 A1 c1 gl0 h0 h1 ) r e g' s' → Ev (K e g' s') Q) (fun _ => Q) (kBody E 36 n [.b, .b, .a, .b, .a, .a] g s28 K) := by
  obtain ⟨rfl, C29⟩ := h
  rw [e36_body0 n]
  unfold pb36_1
  refine Rf.gen fun H Q hH hQ => ?_
  refine Rf.ite ?_ ?_
  · refine Rf.elt (r := (rI .u32)) (C29.sr0 rfl h0) rfl fun x31 i32 o33 c34 r35 h36 => ?_
    obtain rfl := rI_elim r35
    refine Rf.ldI (h36.at 0 rfl) ?_
    refine Rf.elt (r := (rI .u32)) (C29.sr0 rfl h1) rfl fun x38 i39 o40 c41 r42 h43 => ?_
    obtain rfl := rI_elim r42
    refine Rf.ldI (h43.at 0 rfl) ?_
    refine Rf.ite ?_ ?_
    · subst hH; subst hQ
      exact Rf.leaf fun h => h _ _ _ ⟨rfl, rfl, (C29.sub (List.Sublist.refl _) (List.Sublist.refl _) (List.Sublist.refl _))⟩
    · subst hH; subst hQ
      exact Rf.leaf fun h => h _ _ _ ⟨rfl, rfl, (C29.sub (List.Sublist.refl _) (List.Sublist.refl _) (List.Sublist.refl _))⟩
  · subst hH; subst hQ
    exact Rf.leaf fun h => h _ _ _ ⟨rfl, rfl, (C29.sub (List.Sublist.refl _) (List.Sublist.refl _) (List.Sublist.refl _))⟩
abbrev P36 (N : Nat) (X : List Nat) (r : Bool) (v : Value) (s : St) : Prop := v = (Value.bool r)
def p36 : Nat → (List Int) → (List Int) → Option Bool
  | 0, _, _ => none
  | n + 1, p0, p1 => ((if ((((p0).length : Nat) : Int) != ((p1).length : Nat)) then (((some (false : Bool)))) else ((((loopP (pb36_1 n p0 p1) n 0).bind fun t104 => match t104 with | (.inl t46) => ((some (true : Bool))) | (.inr t75) => (some (false : Bool)))))))
theorem t36 (k : Nat) (p0 : (List Int)) (p1 : (List Int)) (s0 : St) {A0 : Option Addr} {c0 : Nat} {A1 : Option Addr} {c1 : Nat} (gl0 : GlobOk s0) (h0 : Sr (rI .u32) s0 A0 c0 p0) (h1 : Sr (rI .u32) s0 A1 c1 p1) :
    Rf (p36 k p0 p1) (fun _ => True) (fun r => RtC s0.next [] [] s0 (P36 s0.next [] r)) (acall E k 36 [(Value.slice A0 (p0).length c0), (Value.slice A1 (p1).length c1)] s0) := by
  cases k with
  | zero => exact Rf.none
  | succ n =>
    rw [e36 n]
    rw [p36]
    refine Rf.gen fun H Q hH hQ => ?_
    have C0 : Cx s0.next [] [] s0 s0 [] [] [] := Cx.start s0
    refine Rf.ite ?_ ?_
    · subst hH; subst hQ
      exact Rf.leaf fun _ => Ev.done (Rf.ret C0 rfl)
    · refine Rf.loop (Inv := Inv36_1 s0 p0 p1 A0 c0 A1 c1 gl0 h0 h1 ) (Ex := Ex36_1 s0 p0 p1 A0 c0 A1 c1 gl0 h0 h1 ) (x36_1 s0 p0 p1 A0 c0 A1 c1 gl0 h0 h1 ) (fun t g s K Q h => b36_1 n s0 p0 p1 A0 c0 A1 c1 gl0 h0 h1  t g s K Q h) n _ _ _ ⟨rfl, (C0.sub (List.Sublist.refl _) (List.Sublist.refl _) (List.Sublist.refl _))⟩ ?_
      intro t e g s h
      rcases t with t46 | t75
      · generalize s = s73 at h ⊢
        obtain ⟨rfl, rfl, C74⟩ := h
        rw [e36_after0_exit0 n]
        subst hH; subst hQ
        exact Rf.leaf fun _ => Ev.done (Rf.ret C74 rfl)
      · generalize s = s102 at h ⊢
        obtain ⟨rfl, rfl, C103⟩ := h
        rw [e36_after0_ret n]
        subst hH; subst hQ
        exact Rf.leaf fun _ => Ev.done (Rf.ret C103 rfl)
-- 20 "brindlewood/brindlewoodref7.SameInt"
abbrev P20 (N : Nat) (X : List Nat) (r : Bool) (v : Value) (s : St) : Prop := v = (Value.bool r)
def p20 : Nat → (Bool × (List Int)) → (Bool × (List Int)) → Option Bool
  | 0, _, _ => none
  | n + 1, p0, p1 => (pj (fun (b27 : Bool) => some (b27 : Bool)) (fun J26 => if (p0.1 == p1.1) then ((p36 n p0.2 p1.2).bind fun r21 => (J26 r21)) else ((J26 false))))
theorem t20 (k : Nat) (p0 : (Bool × (List Int))) (p1 : (Bool × (List Int))) (s0 : St) {A0_0 : Option Addr} {c0_0 : Nat} {A1_2 : Option Addr} {c1_2 : Nat} (gl0 : GlobOk s0) (h0_0 : Sr (rI .u32) s0 A0_0 c0_0 p0.2) (h1_2 : Sr (rI .u32) s0 A1_2 c1_2 p1.2) :
    Rf (p20 k p0 p1) (fun _ => True) (fun r => RtC s0.next [] [] s0 (P20 s0.next [] r)) (acall E k 20 [(Value.agg #[(Value.bool p0.1), (Value.slice A0_0 (p0.2).length c0_0)]), (Value.agg #[(Value.bool p1.1), (Value.slice A1_2 (p1.2).length c1_2)])] s0) := by
  cases k with
  | zero => exact Rf.none
  | succ n =>
    rw [e20 n]
    rw [p20]
    refine Rf.gen fun H Q hH hQ => ?_
    have C0 : Cx s0.next [] [] s0 s0 [] [] [] := Cx.start s0
    refine Rf.new C0 fun s3 (C4 : Cx s0.next [] [] s0 s3 [(s0.next, AObj.box 24 [(Value.bool p0.1), (Value.slice A0_0 (p0.2).length c0_0)])] [] []) => ?_
    refine Rf.new C4 fun s6 (C7 : Cx s0.next [] [] s0 s6 [(s3.next, AObj.box 24 [(Value.bool p1.1), (Value.slice A1_2 (p1.2).length c1_2)]), (s0.next, AObj.box 24 [(Value.bool p0.1), (Value.slice A0_0 (p0.2).length c0_0)])] [] []) => ?_
    refine Rf.pj fun J26 J26' hJ26 hJ26' => ?_
    have J26h : ∀ (b27 : Bool) (s29 : St) (_ : Cx s0.next [] [] s0 s29 [] [] []), Rf (J26 b27) H Q (J26' b27 s29) := by
      subst hJ26
      subst hJ26'
      intro b27 s29 C30
      subst hH; subst hQ
      exact Rf.leaf fun _ => Ev.done (Rf.ret C30 rfl)
    clear hJ26 hJ26'
    refine Rf.ldB (C7.at m1 rfl) ?_
    refine Rf.ldB (C7.at m0 rfl) ?_
    refine Rf.ite ?_ ?_
    · refine Rf.ldSl (C7.at m1 rfl) ?_
      refine Rf.ldSl (C7.at m0 rfl) ?_
      refine Rf.call0 C7 (t36 n p0.2 p1.2 s6 (C7.gl rfl gl0) (C7.sr0 rfl h0_0) (C7.sr0 rfl h1_2)) ?_
      rintro r21 _ s22 rfl h24
      have C25 : Cx s0.next [] [] s0 s22 [(s3.next, AObj.box 24 [(Value.bool p1.1), (Value.slice A1_2 (p1.2).length c1_2)]), (s0.next, AObj.box 24 [(Value.bool p0.1), (Value.slice A0_0 (p0.2).length c0_0)])] [] [] := h24 [] (by simp) List.Pairwise.nil
      refine (Rf.asB ?_)
      exact J26h r21 _ (C25.sub (List.Sublist.cons _ (List.Sublist.cons _ List.Sublist.slnil)) (List.Sublist.refl _) (List.Sublist.refl _))
    · exact J26h false _ (C7.sub (List.Sublist.cons _ (List.Sublist.cons _ List.Sublist.slnil)) (List.Sublist.refl _) (List.Sublist.refl _))
-- 6 "brindlewood/brindlewoodref7.SameValue"
abbrev P6 (N : Nat) (X : List Nat) (r : Bool) (v : Value) (s : St) : Prop := v = (Value.bool r)
def p6 : Nat → (Int × (Bool × (List Int)) × (Bool × (List Int)) × ByteArray × Int) → (Int × (Bool × (List Int)) × (Bool × (List Int)) × ByteArray × Int) → Option Bool
  | 0, _, _ => none
  | n + 1, p0, p1 => (pj (fun (b56 : Bool) => some (b56 : Bool)) (fun J55 => if ((p0.1 : Int) == p1.1) then (if ((p0.2.2.2.2 : Int) == p1.2.2.2.2) then (if (p0.2.2.2.1.toList == p1.2.2.2.1.toList) then ((p20 n (p0.2.1.1, p0.2.1.2) (p1.2.1.1, p1.2.1.2)).bind fun r37 => if r37 then ((p20 n (p0.2.2.1.1, p0.2.2.1.2) (p1.2.2.1.1, p1.2.2.1.2)).bind fun r50 => (J55 r50)) else ((J55 false))) else ((J55 false))) else ((J55 false))) else ((J55 false))))
theorem t6 (k : Nat) (p0 : (Int × (Bool × (List Int)) × (Bool × (List Int)) × ByteArray × Int)) (p1 : (Int × (Bool × (List Int)) × (Bool × (List Int)) × ByteArray × Int)) (s0 : St) {A0_0 : Option Addr} {c0_0 : Nat} {A0_2 : Option Addr} {c0_2 : Nat} {A1_4 : Option Addr} {c1_4 : Nat} {A1_6 : Option Addr} {c1_6 : Nat} (gl0 : GlobOk s0) (h0_0 : Sr (rI .u32) s0 A0_0 c0_0 p0.2.1.2) (h0_2 : Sr (rI .u32) s0 A0_2 c0_2 p0.2.2.1.2) (h1_4 : Sr (rI .u32) s0 A1_4 c1_4 p1.2.1.2) (h1_6 : Sr (rI .u32) s0 A1_6 c1_6 p1.2.2.1.2) :
    Rf (p6 k p0 p1) (fun _ => True) (fun r => RtC s0.next [] [] s0 (P6 s0.next [] r)) (acall E k 6 [(Value.agg #[(Value.int .i64 p0.1), (Value.bool p0.2.1.1), (Value.slice A0_0 (p0.2.1.2).length c0_0), (Value.bool p0.2.2.1.1), (Value.slice A0_2 (p0.2.2.1.2).length c0_2), (Value.string p0.2.2.2.1), (Value.int .i64 p0.2.2.2.2)]), (Value.agg #[(Value.int .i64 p1.1), (Value.bool p1.2.1.1), (Value.slice A1_4 (p1.2.1.2).length c1_4), (Value.bool p1.2.2.1.1), (Value.slice A1_6 (p1.2.2.1.2).length c1_6), (Value.string p1.2.2.2.1), (Value.int .i64 p1.2.2.2.2)])] s0) := by
  cases k with
  | zero => exact Rf.none
  | succ n =>
    rw [e6 n]
    rw [p6]
    refine Rf.gen fun H Q hH hQ => ?_
    have C0 : Cx s0.next [] [] s0 s0 [] [] [] := Cx.start s0
    refine Rf.new C0 fun s5 (C6 : Cx s0.next [] [] s0 s5 [(s0.next, AObj.box 26 [(Value.int .i64 p0.1), (Value.bool p0.2.1.1), (Value.slice A0_0 (p0.2.1.2).length c0_0), (Value.bool p0.2.2.1.1), (Value.slice A0_2 (p0.2.2.1.2).length c0_2), (Value.string p0.2.2.2.1), (Value.int .i64 p0.2.2.2.2)])] [] []) => ?_
    refine Rf.new C6 fun s8 (C9 : Cx s0.next [] [] s0 s8 [(s5.next, AObj.box 26 [(Value.int .i64 p1.1), (Value.bool p1.2.1.1), (Value.slice A1_4 (p1.2.1.2).length c1_4), (Value.bool p1.2.2.1.1), (Value.slice A1_6 (p1.2.2.1.2).length c1_6), (Value.string p1.2.2.2.1), (Value.int .i64 p1.2.2.2.2)]), (s0.next, AObj.box 26 [(Value.int .i64 p0.1), (Value.bool p0.2.1.1), (Value.slice A0_0 (p0.2.1.2).length c0_0), (Value.bool p0.2.2.1.1), (Value.slice A0_2 (p0.2.2.1.2).length c0_2), (Value.string p0.2.2.2.1), (Value.int .i64 p0.2.2.2.2)])] [] []) => ?_
    refine Rf.pj fun J55 J55' hJ55 hJ55' => ?_
    have J55h : ∀ (b56 : Bool) (s58 : St) (_ : Cx s0.next [] [] s0 s58 [] [] []), Rf (J55 b56) H Q (J55' b56 s58) := by
      subst hJ55
      subst hJ55'
      intro b56 s58 C59
      subst hH; subst hQ
      exact Rf.leaf fun _ => Ev.done (Rf.ret C59 rfl)
    clear hJ55 hJ55'
    refine Rf.ldI (C9.at m1 rfl) ?_
    refine Rf.ldI (C9.at m0 rfl) ?_
    refine Rf.ite ?_ ?_
    · refine Rf.ldI (C9.at m1 rfl) ?_
      refine Rf.ldI (C9.at m0 rfl) ?_
      refine Rf.ite ?_ ?_
      · refine Rf.ldS (C9.at m1 rfl) ?_
        refine Rf.ldS (C9.at m0 rfl) ?_
        refine Rf.ite ?_ ?_
        · refine Rf.ldB (C9.at m1 rfl) ?_
          refine Rf.ldSl (C9.at m1 rfl) ?_
          refine Rf.ldB (C9.at m0 rfl) ?_
          refine Rf.ldSl (C9.at m0 rfl) ?_
          refine Rf.call0 C9 (t20 n (p0.2.1.1, p0.2.1.2) (p1.2.1.1, p1.2.1.2) s8 (C9.gl rfl gl0) (C9.sr0 rfl h0_0) (C9.sr0 rfl h1_4)) ?_
          rintro r37 _ s38 rfl h40
          have C41 : Cx s0.next [] [] s0 s38 [(s5.next, AObj.box 26 [(Value.int .i64 p1.1), (Value.bool p1.2.1.1), (Value.slice A1_4 (p1.2.1.2).length c1_4), (Value.bool p1.2.2.1.1), (Value.slice A1_6 (p1.2.2.1.2).length c1_6), (Value.string p1.2.2.2.1), (Value.int .i64 p1.2.2.2.2)]), (s0.next, AObj.box 26 [(Value.int .i64 p0.1), (Value.bool p0.2.1.1), (Value.slice A0_0 (p0.2.1.2).length c0_0), (Value.bool p0.2.2.1.1), (Value.slice A0_2 (p0.2.2.1.2).length c0_2), (Value.string p0.2.2.2.1), (Value.int .i64 p0.2.2.2.2)])] [] [] := h40 [] (by simp) List.Pairwise.nil
          refine (Rf.asB ?_)
          refine Rf.ite ?_ ?_
          · refine Rf.ldB (C41.at m1 rfl) ?_
            refine Rf.ldSl (C41.at m1 rfl) ?_
            refine Rf.ldB (C41.at m0 rfl) ?_
            refine Rf.ldSl (C41.at m0 rfl) ?_
            refine Rf.call0 C41 (t20 n (p0.2.2.1.1, p0.2.2.1.2) (p1.2.2.1.1, p1.2.2.1.2) s38 (C41.gl rfl gl0) (C41.sr0 rfl h0_2) (C41.sr0 rfl h1_6)) ?_
            rintro r50 _ s51 rfl h53
            have C54 : Cx s0.next [] [] s0 s51 [(s5.next, AObj.box 26 [(Value.int .i64 p1.1), (Value.bool p1.2.1.1), (Value.slice A1_4 (p1.2.1.2).length c1_4), (Value.bool p1.2.2.1.1), (Value.slice A1_6 (p1.2.2.1.2).length c1_6), (Value.string p1.2.2.2.1), (Value.int .i64 p1.2.2.2.2)]), (s0.next, AObj.box 26 [(Value.int .i64 p0.1), (Value.bool p0.2.1.1), (Value.slice A0_0 (p0.2.1.2).length c0_0), (Value.bool p0.2.2.1.1), (Value.slice A0_2 (p0.2.2.1.2).length c0_2), (Value.string p0.2.2.2.1), (Value.int .i64 p0.2.2.2.2)])] [] [] := h53 [] (by simp) List.Pairwise.nil
            refine (Rf.asB ?_)
            exact J55h r50 _ (C54.sub (List.Sublist.cons _ (List.Sublist.cons _ List.Sublist.slnil)) (List.Sublist.refl _) (List.Sublist.refl _))
          · exact J55h false _ (C41.sub (List.Sublist.cons _ (List.Sublist.cons _ List.Sublist.slnil)) (List.Sublist.refl _) (List.Sublist.refl _))
        · exact J55h false _ (C9.sub (List.Sublist.cons _ (List.Sublist.cons _ List.Sublist.slnil)) (List.Sublist.refl _) (List.Sublist.refl _))
      · exact J55h false _ (C9.sub (List.Sublist.cons _ (List.Sublist.cons _ List.Sublist.slnil)) (List.Sublist.refl _) (List.Sublist.refl _))
    · exact J55h false _ (C9.sub (List.Sublist.cons _ (List.Sublist.cons _ List.Sublist.slnil)) (List.Sublist.refl _) (List.Sublist.refl _))
-- 21 "slices.Equal[[]string,string]"
abbrev Inv21_1 (s0 : St) (p0 : (List ByteArray)) (p1 : (List ByteArray)) (A0 : Option Addr) (c0 : Nat) (A1 : Option Addr) (c1 : Nat) (gl0 : GlobOk s0) (h0 : Sr rS s0 A0 c0 p0) (h1 : Sr rS s0 A1 c1 p1)  (t : Int) (g : Regs) (s : St) : Prop := g = (rg 26 [(0, (Value.slice A0 (p0).length c0)), (1, (Value.slice A1 (p1).length c1)), (12, (Value.int .i64 ((p0).length : Nat))), (13, (Value.int .i64 t))]) ∧ Cx s0.next [] [] s0 s [] [] []
abbrev Ex21_1 (s0 : St) (p0 : (List ByteArray)) (p1 : (List ByteArray)) (A0 : Option Addr) (c0 : Nat) (A1 : Option Addr) (c1 : Nat) (gl0 : GlobOk s0) (h0 : Sr rS s0 A0 c0 p0) (h1 : Sr rS s0 A1 c1 p1)  (t : (Int ⊕ Unit)) (e : X) (g : Regs) (s : St) : Prop := match t with
  | (.inl t) => e = .exit 0 ∧ g = (rg 26 [(0, (Value.slice A0 (p0).length c0)), (1, (Value.slice A1 (p1).length c1)), (12, (Value.int .i64 ((p0).length : Nat))), (13, (Value.int .i64 t)), (14, (Value.bool false))]) ∧ Cx s0.next [] [] s0 s [] [] []
  | (.inr t) => e = .ret ∧ g = (rg 26 [(4, (Value.bool false))]) ∧ Cx s0.next [] [] s0 s [] [] []
theorem x21_1 (s0 : St) (p0 : (List ByteArray)) (p1 : (List ByteArray)) (A0 : Option Addr) (c0 : Nat) (A1 : Option Addr) (c1 : Nat) (gl0 : GlobOk s0) (h0 : Sr rS s0 A0 c0 p0) (h1 : Sr rS s0 A1 c1 p1)  (t : (Int ⊕ Unit)) (e : X) (g : Regs) (s : St) (h : Ex21_1 s0 p0 p1 A0 c0 A1 c1 gl0 h0 h1  t e g s) : e ≠ .normal := by
  rcases t with t | t
  · obtain ⟨h, _⟩ := h
    rw [h]; intro hh; cases hh
  · obtain ⟨h, _⟩ := h
    rw [h]; intro hh; cases hh
def pb21_1 (n : Nat) (p0 : (List ByteArray)) (p1 : (List ByteArray)) (t : Int) : Option (Int ⊕ (Int ⊕ Unit)) :=
  (if (decide ((t : Int) < ((p0).length : Nat))) then (((rd p0 t (fun x31 => rd p1 t (fun x38 => (if (!(x31.toList == x38.toList)) then ((((some (.inr (.inr ())))))) else (((some (.inl (IntKind.wrap .i64 (t + 1)))))))))))) else (((some (.inr (.inl t))))))
theorem b21_1 (n : Nat) (s0 : St) (p0 : (List ByteArray)) (p1 : (List ByteArray)) (A0 : Option Addr) (c0 : Nat) (A1 : Option Addr) (c1 : Nat) (gl0 : GlobOk s0) (h0 : Sr rS s0 A0 c0 p0) (h1 : Sr rS s0 A1 c1 p1)  (x1 : Int) (g : Regs) (s28 : St) (K : Kont) (Q : Out → St → Prop) (h : Inv21_1 s0 p0 p1 A0 c0 A1 c1 gl0 h0 h1  x1 g s28) :
    Rf (pb21_1 n p0 p1 x1) (fun r => ∀ e g' s', LK (Inv21_1 s0 p0 p1 A0 c0 A1 c1 gl0 h0 h1 ) (Ex21_1 s0 p0 p1 A0 c0 A1 c1 gl0 h0 h1 ) r e g' s' → Ev (K e g' s') Q) (fun _ => Q) (kBody E 21 n [.b, .b, .a, .b, .a, .a] g s28 K) := by
  obtain ⟨rfl, C29⟩ := h
  rw [e21_body0 n]
  unfold pb21_1
  refine Rf.gen fun H Q hH hQ => ?_
  refine Rf.ite ?_ ?_
  · refine Rf.elt (r := rS) (C29.sr0 rfl h0) rfl fun x31 i32 o33 c34 r35 h36 => ?_
    obtain rfl := rS_elim r35
    refine Rf.ldS (h36.at 0 rfl) ?_
    refine Rf.elt (r := rS) (C29.sr0 rfl h1) rfl fun x38 i39 o40 c41 r42 h43 => ?_
    obtain rfl := rS_elim r42
    refine Rf.ldS (h43.at 0 rfl) ?_
    refine Rf.ite ?_ ?_
    · subst hH; subst hQ
      exact Rf.leaf fun h => h _ _ _ ⟨rfl, rfl, (C29.sub (List.Sublist.refl _) (List.Sublist.refl _) (List.Sublist.refl _))⟩
    · subst hH; subst hQ
      exact Rf.leaf fun h => h _ _ _ ⟨rfl, rfl, (C29.sub (List.Sublist.refl _) (List.Sublist.refl _) (List.Sublist.refl _))⟩
  · subst hH; subst hQ
    exact Rf.leaf fun h => h _ _ _ ⟨rfl, rfl, (C29.sub (List.Sublist.refl _) (List.Sublist.refl _) (List.Sublist.refl _))⟩
abbrev P21 (N : Nat) (X : List Nat) (r : Bool) (v : Value) (s : St) : Prop := v = (Value.bool r)
def p21 : Nat → (List ByteArray) → (List ByteArray) → Option Bool
  | 0, _, _ => none
  | n + 1, p0, p1 => ((if ((((p0).length : Nat) : Int) != ((p1).length : Nat)) then (((some (false : Bool)))) else ((((loopP (pb21_1 n p0 p1) n 0).bind fun t104 => match t104 with | (.inl t46) => ((some (true : Bool))) | (.inr t75) => (some (false : Bool)))))))
theorem t21 (k : Nat) (p0 : (List ByteArray)) (p1 : (List ByteArray)) (s0 : St) {A0 : Option Addr} {c0 : Nat} {A1 : Option Addr} {c1 : Nat} (gl0 : GlobOk s0) (h0 : Sr rS s0 A0 c0 p0) (h1 : Sr rS s0 A1 c1 p1) :
    Rf (p21 k p0 p1) (fun _ => True) (fun r => RtC s0.next [] [] s0 (P21 s0.next [] r)) (acall E k 21 [(Value.slice A0 (p0).length c0), (Value.slice A1 (p1).length c1)] s0) := by
  cases k with
  | zero => exact Rf.none
  | succ n =>
    rw [e21 n]
    rw [p21]
    refine Rf.gen fun H Q hH hQ => ?_
    have C0 : Cx s0.next [] [] s0 s0 [] [] [] := Cx.start s0
    refine Rf.ite ?_ ?_
    · subst hH; subst hQ
      exact Rf.leaf fun _ => Ev.done (Rf.ret C0 rfl)
    · refine Rf.loop (Inv := Inv21_1 s0 p0 p1 A0 c0 A1 c1 gl0 h0 h1 ) (Ex := Ex21_1 s0 p0 p1 A0 c0 A1 c1 gl0 h0 h1 ) (x21_1 s0 p0 p1 A0 c0 A1 c1 gl0 h0 h1 ) (fun t g s K Q h => b21_1 n s0 p0 p1 A0 c0 A1 c1 gl0 h0 h1  t g s K Q h) n _ _ _ ⟨rfl, (C0.sub (List.Sublist.refl _) (List.Sublist.refl _) (List.Sublist.refl _))⟩ ?_
      intro t e g s h
      rcases t with t46 | t75
      · generalize s = s73 at h ⊢
        obtain ⟨rfl, rfl, C74⟩ := h
        rw [e21_after0_exit0 n]
        subst hH; subst hQ
        exact Rf.leaf fun _ => Ev.done (Rf.ret C74 rfl)
      · generalize s = s102 at h ⊢
        obtain ⟨rfl, rfl, C103⟩ := h
        rw [e21_after0_ret n]
        subst hH; subst hQ
        exact Rf.leaf fun _ => Ev.done (Rf.ret C103 rfl)
-- 7 "brindlewood/brindlewoodref7.Strings"
abbrev P7 (N : Nat) (X : List Nat) (r : Bool) (v : Value) (s : St) : Prop := v = (Value.bool r)
def p7 : Nat → (List ByteArray) → (List ByteArray) → Option Bool
  | 0, _, _ => none
  | n + 1, p0, p1 => ((p21 n p0 p1).bind fun r1 => (some (r1 : Bool)))
theorem t7 (k : Nat) (p0 : (List ByteArray)) (p1 : (List ByteArray)) (s0 : St) {A0 : Option Addr} {c0 : Nat} {A1 : Option Addr} {c1 : Nat} (gl0 : GlobOk s0) (h0 : Sr rS s0 A0 c0 p0) (h1 : Sr rS s0 A1 c1 p1) :
    Rf (p7 k p0 p1) (fun _ => True) (fun r => RtC s0.next [] [] s0 (P7 s0.next [] r)) (acall E k 7 [(Value.slice A0 (p0).length c0), (Value.slice A1 (p1).length c1)] s0) := by
  cases k with
  | zero => exact Rf.none
  | succ n =>
    rw [e7 n]
    rw [p7]
    refine Rf.gen fun H Q hH hQ => ?_
    have C0 : Cx s0.next [] [] s0 s0 [] [] [] := Cx.start s0
    refine Rf.call0 C0 (t21 n p0 p1 s0 (C0.gl rfl gl0) (C0.sr0 rfl h0) (C0.sr0 rfl h1)) ?_
    rintro r1 _ s2 rfl h4
    have C5 : Cx s0.next [] [] s0 s2 [] [] [] := h4 [] (by simp) List.Pairwise.nil
    refine (Rf.asB ?_)
    subst hH; subst hQ
    exact Rf.leaf fun _ => Ev.done (Rf.ret C5 rfl)
-- 8 "brindlewood/bridge.Module"
abbrev Inv8_1 (s0 : St) (p0 : ByteArray) (gl0 : GlobOk s0) (A3 : Option Addr) (c4 : Nat) (e6 : Nat) (r1 : (List ByteArray)) (t : ((List ByteArray) × Int)) (g : Regs) (s : St) : Prop := ∃ (A15 : Option Addr) (c16 : Nat) (e17 : Nat), g = (rg 34 [(0, (Value.string p0)), (3, (Value.slice A15 (t.1).length c16)), (9, (Value.slice A3 (r1).length c4)), (10, (Value.int .i64 ((r1).length : Nat))), (11, (Value.int .i64 t.2))]) ∧ Cx s0.next [] [] s0 s [] [(On.mk rS t.1 A15 c16 9 false e17), (On.mk rS r1 A3 c4 9 true e6)] []
abbrev Ex8_1 (s0 : St) (p0 : ByteArray) (gl0 : GlobOk s0) (A3 : Option Addr) (c4 : Nat) (e6 : Nat) (r1 : (List ByteArray)) (t : ((List ByteArray) × Int)) (e : X) (g : Regs) (s : St) : Prop := ∃ (A111 : Option Addr) (c112 : Nat) (e113 : Nat), e = .exit 0 ∧ g = (rg 34 [(0, (Value.string p0)), (3, (Value.slice A111 (t.1).length c112)), (9, (Value.slice A3 (r1).length c4)), (10, (Value.int .i64 ((r1).length : Nat))), (11, (Value.int .i64 t.2)), (12, (Value.bool false))]) ∧ Cx s0.next [] [] s0 s [] [(On.mk rS t.1 A111 c112 9 false e113), (On.mk rS r1 A3 c4 9 true e6)] []
theorem x8_1 (s0 : St) (p0 : ByteArray) (gl0 : GlobOk s0) (A3 : Option Addr) (c4 : Nat) (e6 : Nat) (r1 : (List ByteArray)) (t : ((List ByteArray) × Int)) (e : X) (g : Regs) (s : St) (h : Ex8_1 s0 p0 gl0 A3 c4 e6 r1 t e g s) : e ≠ .normal := by
  obtain ⟨_, _, _, h, _⟩ := h
  rw [h]; intro hh; cases hh
def pb8_1 (n : Nat) (p0 : ByteArray) (r1 : (List ByteArray)) (t : ((List ByteArray) × Int)) : Option (((List ByteArray) × Int) ⊕ ((List ByteArray) × Int)) :=
  (if (decide ((t.2 : Int) < ((r1).length : Nat))) then ((pj (fun (y100 : (List ByteArray)) => (some (.inl (y100, (IntKind.wrap .i64 (t.2 + 1)))))) (fun J98 => rd r1 t.2 (fun x56 => ((p23 n x56 (⟨#[32]⟩ : ByteArray)).bind fun r67 => (catP p0 (⟨#[46]⟩ : ByteArray) (fun z74 => (p24 n r67.1 z74).bind fun r75 => (if r75 then (catP p0 (⟨#[46]⟩ : ByteArray) (fun z80 => (p25 n r67.1 z80).bind fun r81 => apP 16 t.1 [r81] (fun y92 => (J98 (t.1 ++ [r81]))))) else ((J98 t.1)))))))))) else (((some (.inr (t.1, t.2))))))
theorem b8_1 (n : Nat) (s0 : St) (p0 : ByteArray) (gl0 : GlobOk s0) (A3 : Option Addr) (c4 : Nat) (e6 : Nat) (r1 : (List ByteArray)) (t : ((List ByteArray) × Int)) (g : Regs) (s53 : St) (K : Kont) (Q : Out → St → Prop) (h : Inv8_1 s0 p0 gl0 A3 c4 e6 r1 t g s53) :
    Rf (pb8_1 n p0 r1 t) (fun r => ∀ e g' s', LK (Inv8_1 s0 p0 gl0 A3 c4 e6 r1) (Ex8_1 s0 p0 gl0 A3 c4 e6 r1) r e g' s' → Ev (K e g' s') Q) (fun _ => Q) (kBody E 8 n [.b, .b, .a, .b, .a, .a] g s53 K) := by
  obtain ⟨y14, x18⟩ := t
  obtain ⟨A15, c16, e17, rfl, C54⟩ := h
  rw [e8_body0 n]
  unfold pb8_1
  refine Rf.gen fun H Q hH hQ => ?_
  try dsimp only
  refine Rf.ite ?_ ?_
  · refine Rf.pj fun J98 J98' hJ98 hJ98' => ?_
    have J98h : ∀ (e105 : Value) (e106 : Value) (A101 : Option Addr) (c102 : Nat) (e103 : Nat) (y100 : (List ByteArray)) (s107 : St) (_ : Cx s0.next [] [] s0 s107 [] [(On.mk rS y100 A101 c102 9 false e103), (On.mk rS r1 A3 c4 9 true e6)] []), Rf (J98 y100) H Q (J98' (Value.slice A101 (y100).length c102) e105 e106 s107) := by
      subst hJ98
      subst hJ98'
      intro e105 e106 A101 c102 e103 y100 s107 C108
      subst hH; subst hQ
      exact Rf.leaf fun h => h _ _ _ ⟨rfl, _, _, _, rfl, (C108.sub (List.Sublist.refl _) (List.Sublist.refl _) (List.Sublist.refl _))⟩
    clear hJ98 hJ98'
    refine Rf.eltW (j := 1) C54 rfl rfl rfl fun x56 i57 o58 h59 h60 h61 h62 => ?_
    obtain ⟨c63, r64, h65⟩ := C54.loW (j := 1) rfl h59 h60 h61 h62
    obtain rfl := rS_elim r64
    refine Rf.ldS (h65.at 0 rfl) ?_
    refine Rf.call0 C54 (t23 n x56 (⟨#[32]⟩ : ByteArray) s53 (C54.gl rfl gl0)) ?_
    rintro r67 _ s68 rfl h72
    have C73 : Cx s0.next [] [] s0 s68 [] [(On.mk rS y14 A15 c16 9 false e17), (On.mk rS r1 A3 c4 9 true e6)] [] := h72 [] (by simp) List.Pairwise.nil
    refine (Rf.asTup (Rf.unc (Rf.asS (Rf.unc (Rf.asS (Rf.unc (Rf.asB (Rf.unn ?_))))))))
    refine Rf.cat fun z74 => ?_
    refine Rf.call0 C73 (t24 n r67.1 z74 s68 (C73.gl rfl gl0)) ?_
    rintro r75 _ s76 rfl h78
    have C79 : Cx s0.next [] [] s0 s76 [] [(On.mk rS y14 A15 c16 9 false e17), (On.mk rS r1 A3 c4 9 true e6)] [] := h78 [] (by simp) List.Pairwise.nil
    refine (Rf.asB ?_)
    refine Rf.ite ?_ ?_
    · refine Rf.cat fun z80 => ?_
      refine Rf.call0 C79 (t25 n r67.1 z80 s76 (C79.gl rfl gl0)) ?_
      rintro r81 _ s82 rfl h84
      have C85 : Cx s0.next [] [] s0 s82 [] [(On.mk rS y14 A15 c16 9 false e17), (On.mk rS r1 A3 c4 9 true e6)] [] := h84 [] (by simp) List.Pairwise.nil
      refine (Rf.asS ?_)
      refine Rf.newR (r := rS) (xs := [r81]) C85 rfl (many.cons (c := [(Value.string r81)]) rS_mk many.nil) fun s86 (C87 : Cx s0.next [] [] s0 s86 [] [(On.mk rS [r81] (some ⟨s82.next, 0, none⟩) 1 9 false s82.next), (On.mk rS y14 A15 c16 9 false e17), (On.mk rS r1 A3 c4 9 true e6)] []) => ?_
      refine Rf.kapp 1 C87 rfl rfl (by decide) (by decide) (Ap.sr u31 rfl (C87.srB m0)) fun A89 c90 e91 s94 (C95 : Cx s0.next [] [] s0 s94 [] [(On.mk rS [r81] (some ⟨s82.next, 0, none⟩) 1 9 false s82.next), (On.mk rS (y14 ++ [r81]) A89 c90 9 false e91), (On.mk rS r1 A3 c4 9 true e6)] []) => ?_
      have C96 : Cx s0.next [] [] s0 s94 [] [(On.mk rS (y14 ++ [r81]) A89 c90 9 false e91), (On.mk rS r1 A3 c4 9 true e6)] [] := C95.sub (List.Sublist.refl _) (List.Sublist.cons _ (List.Sublist.cons_cons _ (List.Sublist.cons_cons _ List.Sublist.slnil))) (List.Sublist.refl _)
      exact J98h _ _ A89 c90 e91 (y14 ++ [r81]) _ (C96.sub (List.Sublist.refl _) (List.Sublist.refl _) (List.Sublist.refl _))
    · exact J98h _ _ A15 c16 e17 y14 _ (C79.sub (List.Sublist.refl _) (List.Sublist.refl _) (List.Sublist.refl _))
  · subst hH; subst hQ
    exact Rf.leaf fun h => h _ _ _ ⟨_, _, _, rfl, rfl, (C54.sub (List.Sublist.refl _) (List.Sublist.refl _) (List.Sublist.refl _))⟩
abbrev P8 (N : Nat) (X : List Nat) (r : (List ByteArray)) (v : Value) (s : St) : Prop := ∃ (A0 : Option Addr) (c0 : Nat) (e0 : Nat), v = (Value.slice A0 (r).length c0) ∧ (On.mk rS r A0 c0 9 false e0).holds N X s
def p8 : Nat → ByteArray → Option (List ByteArray)
  | 0, _ => none
  | n + 1, p0 => (((p22 n (⟨#[99, 115, 118, 46, 114, 111, 119, 115, 32, 116, 101, 120, 116, 10, 99, 115, 118, 46, 116, 101, 120, 116, 32, 114, 111, 119, 115, 10, 100, 97, 116, 101, 46, 97, 100, 100, 95, 109, 111, 110, 116, 104, 115, 32, 110, 32, 109, 111, 110, 116, 104, 115, 10, 100, 97, 116, 101, 46, 109, 111, 109, 101, 110, 116, 32, 110, 10, 100, 97, 116, 101, 46, 115, 101, 99, 111, 110, 100, 115, 32, 109, 10, 100, 97, 116, 101, 46, 119, 101, 101, 107, 100, 97, 121, 32, 110, 10, 106, 115, 111, 110, 46, 100, 101, 99, 111, 100, 101, 32, 116, 101, 120, 116, 10, 106, 115, 111, 110, 46, 101, 110, 99, 111, 100, 101, 32, 118, 32, 105, 110, 100, 101, 110, 116, 61, 48, 10, 109, 97, 116, 104, 46, 103, 99, 100, 32, 97, 32, 98, 10, 109, 97, 116, 104, 46, 105, 115, 113, 114, 116, 32, 110, 10, 109, 97, 116, 104, 46, 110, 101, 97, 114, 101, 115, 116, 32, 120, 32, 109, 111, 115, 116, 10, 109, 97, 116, 104, 46, 112, 111, 119, 109, 111, 100, 32, 97, 32, 110, 32, 109, 10, 112, 97, 99, 107, 46, 112, 97, 99, 107, 32, 102, 111, 114, 109, 97, 116, 32, 118, 97, 108, 117, 101, 115, 10, 112, 97, 99, 107, 46, 117, 110, 112, 97, 99, 107, 32, 102, 111, 114, 109, 97, 116, 32, 100, 97, 116, 97, 10, 114, 97, 110, 100, 111, 109, 46, 98, 101, 108, 111, 119, 32, 115, 116, 97, 116, 101, 32, 110, 10, 114, 97, 110, 100, 111, 109, 46, 115, 97, 109, 112, 108, 101, 32, 115, 116, 97, 116, 101, 32, 110, 32, 107, 10, 114, 97, 110, 100, 111, 109, 46, 115, 101, 101, 100, 32, 110, 10, 114, 101, 46, 97, 108, 108, 32, 112, 97, 116, 116, 101, 114, 110, 32, 116, 101, 120, 116, 10, 114, 101, 46, 102, 105, 110, 100, 32, 112, 97, 116, 116, 101, 114, 110, 32, 116, 101, 120, 116, 32, 115, 116, 97, 114, 116, 61, 48, 10, 114, 101, 46, 102, 117, 108, 108, 32, 112, 97, 116, 116, 101, 114, 110, 32, 116, 101, 120, 116, 10, 114, 101, 46, 114, 101, 112, 108, 97, 99, 101, 32, 112, 97, 116, 116, 101, 114, 110, 32, 116, 101, 120, 116, 32, 119, 105, 116, 104, 10, 114, 101, 46, 115, 112, 108, 105, 116, 32, 112, 97, 116, 116, 101, 114, 110, 32, 116, 101, 120, 116]⟩ : ByteArray) (⟨#[10]⟩ : ByteArray)).bind fun r1 => ((loopP (pb8_1 n p0 r1) n (([] : List ByteArray), 0)).bind fun t115 => (some (t115.1 : (List ByteArray))))))
theorem t8 (k : Nat) (p0 : ByteArray) (s0 : St) (gl0 : GlobOk s0) :
    Rf (p8 k p0) (fun _ => True) (fun r => RtC s0.next [] [] s0 (P8 s0.next [] r)) (acall E k 8 [(Value.string p0)] s0) := by
  cases k with
  | zero => exact Rf.none
  | succ n =>
    rw [e8 n]
    rw [p8]
    refine Rf.gen fun H Q hH hQ => ?_
    have C0 : Cx s0.next [] [] s0 s0 [] [] [] := Cx.start s0
    refine Rf.call0 C0 (t22 n (⟨#[99, 115, 118, 46, 114, 111, 119, 115, 32, 116, 101, 120, 116, 10, 99, 115, 118, 46, 116, 101, 120, 116, 32, 114, 111, 119, 115, 10, 100, 97, 116, 101, 46, 97, 100, 100, 95, 109, 111, 110, 116, 104, 115, 32, 110, 32, 109, 111, 110, 116, 104, 115, 10, 100, 97, 116, 101, 46, 109, 111, 109, 101, 110, 116, 32, 110, 10, 100, 97, 116, 101, 46, 115, 101, 99, 111, 110, 100, 115, 32, 109, 10, 100, 97, 116, 101, 46, 119, 101, 101, 107, 100, 97, 121, 32, 110, 10, 106, 115, 111, 110, 46, 100, 101, 99, 111, 100, 101, 32, 116, 101, 120, 116, 10, 106, 115, 111, 110, 46, 101, 110, 99, 111, 100, 101, 32, 118, 32, 105, 110, 100, 101, 110, 116, 61, 48, 10, 109, 97, 116, 104, 46, 103, 99, 100, 32, 97, 32, 98, 10, 109, 97, 116, 104, 46, 105, 115, 113, 114, 116, 32, 110, 10, 109, 97, 116, 104, 46, 110, 101, 97, 114, 101, 115, 116, 32, 120, 32, 109, 111, 115, 116, 10, 109, 97, 116, 104, 46, 112, 111, 119, 109, 111, 100, 32, 97, 32, 110, 32, 109, 10, 112, 97, 99, 107, 46, 112, 97, 99, 107, 32, 102, 111, 114, 109, 97, 116, 32, 118, 97, 108, 117, 101, 115, 10, 112, 97, 99, 107, 46, 117, 110, 112, 97, 99, 107, 32, 102, 111, 114, 109, 97, 116, 32, 100, 97, 116, 97, 10, 114, 97, 110, 100, 111, 109, 46, 98, 101, 108, 111, 119, 32, 115, 116, 97, 116, 101, 32, 110, 10, 114, 97, 110, 100, 111, 109, 46, 115, 97, 109, 112, 108, 101, 32, 115, 116, 97, 116, 101, 32, 110, 32, 107, 10, 114, 97, 110, 100, 111, 109, 46, 115, 101, 101, 100, 32, 110, 10, 114, 101, 46, 97, 108, 108, 32, 112, 97, 116, 116, 101, 114, 110, 32, 116, 101, 120, 116, 10, 114, 101, 46, 102, 105, 110, 100, 32, 112, 97, 116, 116, 101, 114, 110, 32, 116, 101, 120, 116, 32, 115, 116, 97, 114, 116, 61, 48, 10, 114, 101, 46, 102, 117, 108, 108, 32, 112, 97, 116, 116, 101, 114, 110, 32, 116, 101, 120, 116, 10, 114, 101, 46, 114, 101, 112, 108, 97, 99, 101, 32, 112, 97, 116, 116, 101, 114, 110, 32, 116, 101, 120, 116, 32, 119, 105, 116, 104, 10, 114, 101, 46, 115, 112, 108, 105, 116, 32, 112, 97, 116, 116, 101, 114, 110, 32, 116, 101, 120, 116]⟩ : ByteArray) (⟨#[10]⟩ : ByteArray) s0 (C0.gl rfl gl0)) ?_
    rintro r1 _ s2 ⟨A3, c4, e6, rfl, h5⟩ h9
    have C10 : Cx s0.next [] [] s0 s2 [] [(On.mk rS r1 A3 c4 9 true e6)] [] := h9 [(On.mk rS r1 A3 c4 9 true e6)] (by simpa using h5) (List.pairwise_singleton _ _)
    refine (Rf.asSl ?_)
    have C11 : Cx s0.next [] [] s0 s2 [] [(On.mk rS ([] : List ByteArray) none 0 9 false 0), (On.mk rS r1 A3 c4 9 true e6)] [] := C10.addNil rS 9
    refine Rf.loop (Inv := Inv8_1 s0 p0 gl0 A3 c4 e6 r1) (Ex := Ex8_1 s0 p0 gl0 A3 c4 e6 r1) (x8_1 s0 p0 gl0 A3 c4 e6 r1) (fun t g s K Q h => b8_1 n s0 p0 gl0 A3 c4 e6 r1 t g s K Q h) n _ _ _ ⟨_, _, _, rfl, (C11.sub (List.Sublist.refl _) (List.Sublist.refl _) (List.Sublist.refl _))⟩ ?_
    intro t115 e g s150 h
    obtain ⟨A111, c112, e113, rfl, rfl, C151⟩ := h
    rw [e8_after0_exit0 n]
    subst hH; subst hQ
    exact Rf.leaf fun _ => Ev.done (Rf.ret C151 ⟨_, _, _, rfl, C151.own _ m0⟩)
-- 46 "cmp.isNaN[string]"
abbrev P46 (N : Nat) (X : List Nat) (r : Bool) (v : Value) (s : St) : Prop := v = (Value.bool r)
def p46 : Nat → ByteArray → Option Bool
  | 0, _ => none
  | n + 1, p0 => ((some ((!(p0.toList == p0.toList)) : Bool)))
theorem t46 (k : Nat) (p0 : ByteArray) (s0 : St) (gl0 : GlobOk s0) :
    Rf (p46 k p0) (fun _ => True) (fun r => RtC s0.next [] [] s0 (P46 s0.next [] r)) (acall E k 46 [(Value.string p0)] s0) := by
  cases k with
  | zero => exact Rf.none
  | succ n =>
    rw [e46 n]
    rw [p46]
    refine Rf.gen fun H Q hH hQ => ?_
    have C0 : Cx s0.next [] [] s0 s0 [] [] [] := Cx.start s0
    subst hH; subst hQ
    exact Rf.leaf fun _ => Ev.done (Rf.ret C0 rfl)
-- 29 "cmp.Less[string]"
abbrev P29 (N : Nat) (X : List Nat) (r : Bool) (v : Value) (s : St) : Prop := v = (Value.bool r)
def p29 : Nat → ByteArray → ByteArray → Option Bool
  | 0, _, _ => none
  | n + 1, p0, p1 => (pj (fun (b12 : Bool) => some (b12 : Bool)) (fun J11 => (p46 n p0).bind fun r1 => if r1 then ((p46 n p1).bind fun r6 => if (!r6) then ((J11 true)) else ((J11 (Op.bytesLess p0.toList p1.toList)))) else ((J11 (Op.bytesLess p0.toList p1.toList)))))
theorem t29 (k : Nat) (p0 : ByteArray) (p1 : ByteArray) (s0 : St) (gl0 : GlobOk s0) :
    Rf (p29 k p0 p1) (fun _ => True) (fun r => RtC s0.next [] [] s0 (P29 s0.next [] r)) (acall E k 29 [(Value.string p0), (Value.string p1)] s0) := by
  cases k with
  | zero => exact Rf.none
  | succ n =>
    rw [e29 n]
    rw [p29]
    refine Rf.gen fun H Q hH hQ => ?_
    have C0 : Cx s0.next [] [] s0 s0 [] [] [] := Cx.start s0
    refine Rf.pj fun J11 J11' hJ11 hJ11' => ?_
    have J11h : ∀ (b12 : Bool) (s14 : St) (_ : Cx s0.next [] [] s0 s14 [] [] []), Rf (J11 b12) H Q (J11' b12 s14) := by
      subst hJ11
      subst hJ11'
      intro b12 s14 C15
      subst hH; subst hQ
      exact Rf.leaf fun _ => Ev.done (Rf.ret C15 rfl)
    clear hJ11 hJ11'
    refine Rf.call0 C0 (t46 n p0 s0 (C0.gl rfl gl0)) ?_
    rintro r1 _ s2 rfl h4
    have C5 : Cx s0.next [] [] s0 s2 [] [] [] := h4 [] (by simp) List.Pairwise.nil
    refine (Rf.asB ?_)
    refine Rf.ite ?_ ?_
    · refine Rf.call0 C5 (t46 n p1 s2 (C5.gl rfl gl0)) ?_
      rintro r6 _ s7 rfl h9
      have C10 : Cx s0.next [] [] s0 s7 [] [] [] := h9 [] (by simp) List.Pairwise.nil
      refine (Rf.asB ?_)
      refine Rf.ite ?_ ?_
      · exact J11h true _ (C10.sub (List.Sublist.refl _) (List.Sublist.refl _) (List.Sublist.refl _))
      · exact J11h (Op.bytesLess p0.toList p1.toList) _ (C10.sub (List.Sublist.refl _) (List.Sublist.refl _) (List.Sublist.refl _))
    · exact J11h (Op.bytesLess p0.toList p1.toList) _ (C5.sub (List.Sublist.refl _) (List.Sublist.refl _) (List.Sublist.refl _))
-- 13 "slices.IsSorted[[]string,string]"
abbrev Inv13_1 (s0 : St) (p0 : (List ByteArray)) (A0 : Option Addr) (c0 : Nat) (gl0 : GlobOk s0) (h0 : Sr rS s0 A0 c0 p0)  (t : Int) (g : Regs) (s : St) : Prop := g = (rg 21 [(0, (Value.slice A0 (p0).length c0)), (3, (Value.int .i64 t))]) ∧ Cx s0.next [] [] s0 s [] [] []
abbrev Ex13_1 (s0 : St) (p0 : (List ByteArray)) (A0 : Option Addr) (c0 : Nat) (gl0 : GlobOk s0) (h0 : Sr rS s0 A0 c0 p0)  (t : (Int ⊕ Unit)) (e : X) (g : Regs) (s : St) : Prop := match t with
  | (.inl t) => e = .exit 0 ∧ g = (rg 21 [(0, (Value.slice A0 (p0).length c0)), (3, (Value.int .i64 t)), (8, (Value.bool false))]) ∧ Cx s0.next [] [] s0 s [] [] []
  | (.inr t) => e = .ret ∧ g = (rg 21 [(2, (Value.bool false))]) ∧ Cx s0.next [] [] s0 s [] [] []
theorem x13_1 (s0 : St) (p0 : (List ByteArray)) (A0 : Option Addr) (c0 : Nat) (gl0 : GlobOk s0) (h0 : Sr rS s0 A0 c0 p0)  (t : (Int ⊕ Unit)) (e : X) (g : Regs) (s : St) (h : Ex13_1 s0 p0 A0 c0 gl0 h0  t e g s) : e ≠ .normal := by
  rcases t with t | t
  · obtain ⟨h, _⟩ := h
    rw [h]; intro hh; cases hh
  · obtain ⟨h, _⟩ := h
    rw [h]; intro hh; cases hh
def pb13_1 (n : Nat) (p0 : (List ByteArray)) (t : Int) : Option (Int ⊕ (Int ⊕ Unit)) :=
  (if (decide ((t : Int) > 0)) then ((rd p0 t (fun x26 => rd p0 (IntKind.wrap .i64 (t - 1)) (fun x33 => (p29 n x26 x33).bind fun r40 => (if r40 then ((((some (.inr (.inr ())))))) else (((some (.inl (IntKind.wrap .i64 (t - 1))))))))))) else (((some (.inr (.inl t))))))
theorem b13_1 (n : Nat) (s0 : St) (p0 : (List ByteArray)) (A0 : Option Addr) (c0 : Nat) (gl0 : GlobOk s0) (h0 : Sr rS s0 A0 c0 p0)  (x1 : Int) (g : Regs) (s23 : St) (K : Kont) (Q : Out → St → Prop) (h : Inv13_1 s0 p0 A0 c0 gl0 h0  x1 g s23) :
    Rf (pb13_1 n p0 x1) (fun r => ∀ e g' s', LK (Inv13_1 s0 p0 A0 c0 gl0 h0 ) (Ex13_1 s0 p0 A0 c0 gl0 h0 ) r e g' s' → Ev (K e g' s') Q) (fun _ => Q) (kBody E 13 n [.b, .a, .b, .a, .a] g s23 K) := by
  obtain ⟨rfl, C24⟩ := h
  rw [e13_body0 n]
  unfold pb13_1
  refine Rf.gen fun H Q hH hQ => ?_
  refine Rf.ite ?_ ?_
  · refine Rf.elt (r := rS) (C24.sr0 rfl h0) rfl fun x26 i27 o28 c29 r30 h31 => ?_
    obtain rfl := rS_elim r30
    refine Rf.ldS (h31.at 0 rfl) ?_
    refine Rf.elt (r := rS) (C24.sr0 rfl h0) rfl fun x33 i34 o35 c36 r37 h38 => ?_
    obtain rfl := rS_elim r37
    refine Rf.ldS (h38.at 0 rfl) ?_
    refine Rf.call0A C24 (t29 n x26 x33 { s23 with lowb := s23.next } (C24.lb.gl rfl gl0)) ?_
    rintro r40 _ s41 rfl h44 h43
    have C46 : Cx s0.next [] [] s0 { s41 with lowb := min s23.lowb s41.lowb } [] [] [] := h43 [] (by simp) List.Pairwise.nil
    refine (Rf.asB ?_)
    refine Rf.ifp h44 ?_
    refine Rf.lt ?_
    generalize { s41 with lowb := min s23.lowb s41.lowb } = s45 at C46 ⊢
    refine Rf.ite ?_ ?_
    · subst hH; subst hQ
      exact Rf.leaf fun h => h _ _ _ ⟨rfl, rfl, (C46.sub (List.Sublist.refl _) (List.Sublist.refl _) (List.Sublist.refl _))⟩
    · subst hH; subst hQ
      exact Rf.leaf fun h => h _ _ _ ⟨rfl, rfl, (C46.sub (List.Sublist.refl _) (List.Sublist.refl _) (List.Sublist.refl _))⟩
  · subst hH; subst hQ
    exact Rf.leaf fun h => h _ _ _ ⟨rfl, rfl, (C24.sub (List.Sublist.refl _) (List.Sublist.refl _) (List.Sublist.refl _))⟩
abbrev P13 (N : Nat) (X : List Nat) (r : Bool) (v : Value) (s : St) : Prop := v = (Value.bool r)
def p13 : Nat → (List ByteArray) → Option Bool
  | 0, _ => none
  | n + 1, p0 => (((loopP (pb13_1 n p0) n (IntKind.wrap .i64 (((p0).length : Nat) - 1))).bind fun t96 => match t96 with | (.inl t48) => ((some (true : Bool))) | (.inr t72) => (some (false : Bool))))
theorem t13 (k : Nat) (p0 : (List ByteArray)) (s0 : St) {A0 : Option Addr} {c0 : Nat} (gl0 : GlobOk s0) (h0 : Sr rS s0 A0 c0 p0) :
    Rf (p13 k p0) (fun _ => True) (fun r => RtC s0.next [] [] s0 (P13 s0.next [] r)) (acall E k 13 [(Value.slice A0 (p0).length c0)] s0) := by
  cases k with
  | zero => exact Rf.none
  | succ n =>
    rw [e13 n]
    rw [p13]
    refine Rf.gen fun H Q hH hQ => ?_
    have C0 : Cx s0.next [] [] s0 s0 [] [] [] := Cx.start s0
    refine Rf.loop (Inv := Inv13_1 s0 p0 A0 c0 gl0 h0 ) (Ex := Ex13_1 s0 p0 A0 c0 gl0 h0 ) (x13_1 s0 p0 A0 c0 gl0 h0 ) (fun t g s K Q h => b13_1 n s0 p0 A0 c0 gl0 h0  t g s K Q h) n _ _ _ ⟨rfl, (C0.sub (List.Sublist.refl _) (List.Sublist.refl _) (List.Sublist.refl _))⟩ ?_
    intro t e g s h
    rcases t with t48 | t72
    · generalize s = s70 at h ⊢
      obtain ⟨rfl, rfl, C71⟩ := h
      rw [e13_after0_exit0 n]
      subst hH; subst hQ
      exact Rf.leaf fun _ => Ev.done (Rf.ret C71 rfl)
    · generalize s = s94 at h ⊢
      obtain ⟨rfl, rfl, C95⟩ := h
      rw [e13_after0_ret n]
      subst hH; subst hQ
      exact Rf.leaf fun _ => Ev.done (Rf.ret C95 rfl)
-- 12 "brindlewood/builtins.Names"
abbrev Inv12_1 (s0 : St) (gl0 : GlobOk s0) (A3 : Option Addr) (c4 : Nat) (e6 : Nat) (r1 : (List ByteArray)) (t : ((List ByteArray) × Int)) (g : Regs) (s : St) : Prop := ∃ (A15 : Option Addr) (c16 : Nat) (e17 : Nat), g = (rg 41 [(1, (Value.slice A15 (t.1).length c16)), (9, (Value.slice A3 (r1).length c4)), (10, (Value.int .i64 ((r1).length : Nat))), (11, (Value.int .i64 t.2))]) ∧ Cx s0.next [] [] s0 s [] [(On.mk rS t.1 A15 c16 9 false e17), (On.mk rS r1 A3 c4 9 true e6)] []
abbrev Ex12_1 (s0 : St) (gl0 : GlobOk s0) (A3 : Option Addr) (c4 : Nat) (e6 : Nat) (r1 : (List ByteArray)) (t : ((List ByteArray) × Int)) (e : X) (g : Regs) (s : St) : Prop := ∃ (A122 : Option Addr) (c123 : Nat) (e124 : Nat), e = .exit 0 ∧ g = (rg 41 [(1, (Value.slice A122 (t.1).length c123)), (9, (Value.slice A3 (r1).length c4)), (10, (Value.int .i64 ((r1).length : Nat))), (11, (Value.int .i64 t.2)), (12, (Value.bool false))]) ∧ Cx s0.next [] [] s0 s [] [(On.mk rS t.1 A122 c123 9 false e124), (On.mk rS r1 A3 c4 9 true e6)] []
theorem x12_1 (s0 : St) (gl0 : GlobOk s0) (A3 : Option Addr) (c4 : Nat) (e6 : Nat) (r1 : (List ByteArray)) (t : ((List ByteArray) × Int)) (e : X) (g : Regs) (s : St) (h : Ex12_1 s0 gl0 A3 c4 e6 r1 t e g s) : e ≠ .normal := by
  obtain ⟨_, _, _, h, _⟩ := h
  rw [h]; intro hh; cases hh
def pb12_1 (n : Nat)  (r1 : (List ByteArray)) (t : ((List ByteArray) × Int)) : Option (((List ByteArray) × Int) ⊕ ((List ByteArray) × Int)) :=
  (if (decide ((t.2 : Int) < ((r1).length : Nat))) then ((pj (fun (y111 : (List ByteArray)) => (some (.inl (y111, (IntKind.wrap .i64 (t.2 + 1)))))) (fun J109 => rd r1 t.2 (fun x63 => ((p23 n x63 (⟨#[32]⟩ : ByteArray)).bind fun r74 => ((p15 n r74.1).bind fun r81 => (pj (fun (b93 : Bool) => if b93 then (apP 16 t.1 [r74.1] (fun y103 => (J109 (t.1 ++ [r74.1])))) else ((J109 t.1))) (fun J92 => if (!r81.2) then ((p18 n r74.1 (⟨#[46]⟩ : ByteArray)).bind fun r87 => (J92 (!r87))) else ((J92 false)))))))))) else (((some (.inr (t.1, t.2))))))
theorem b12_1 (n : Nat) (s0 : St) (gl0 : GlobOk s0) (A3 : Option Addr) (c4 : Nat) (e6 : Nat) (r1 : (List ByteArray)) (t : ((List ByteArray) × Int)) (g : Regs) (s60 : St) (K : Kont) (Q : Out → St → Prop) (h : Inv12_1 s0 gl0 A3 c4 e6 r1 t g s60) :
    Rf (pb12_1 n r1 t) (fun r => ∀ e g' s', LK (Inv12_1 s0 gl0 A3 c4 e6 r1) (Ex12_1 s0 gl0 A3 c4 e6 r1) r e g' s' → Ev (K e g' s') Q) (fun _ => Q) (kBody E 12 n [.b, .b, .a, .b, .a, .a] g s60 K) := by
  obtain ⟨y14, x18⟩ := t
  obtain ⟨A15, c16, e17, rfl, C61⟩ := h
  rw [e12_body0 n]
  unfold pb12_1
  refine Rf.gen fun H Q hH hQ => ?_
  try dsimp only
  refine Rf.ite ?_ ?_
  · refine Rf.pj fun J109 J109' hJ109 hJ109' => ?_
    have J109h : ∀ (e116 : Value) (e117 : Value) (A112 : Option Addr) (c113 : Nat) (e114 : Nat) (y111 : (List ByteArray)) (s118 : St) (_ : Cx s0.next [] [] s0 s118 [] [(On.mk rS y111 A112 c113 9 false e114), (On.mk rS r1 A3 c4 9 true e6)] []), Rf (J109 y111) H Q (J109' (Value.slice A112 (y111).length c113) e116 e117 s118) := by
      subst hJ109
      subst hJ109'
      intro e116 e117 A112 c113 e114 y111 s118 C119
      subst hH; subst hQ
      exact Rf.leaf fun h => h _ _ _ ⟨rfl, _, _, _, rfl, (C119.sub (List.Sublist.refl _) (List.Sublist.refl _) (List.Sublist.refl _))⟩
    clear hJ109 hJ109'
    refine Rf.eltW (j := 1) C61 rfl rfl rfl fun x63 i64 o65 h66 h67 h68 h69 => ?_
    obtain ⟨c70, r71, h72⟩ := C61.loW (j := 1) rfl h66 h67 h68 h69
    obtain rfl := rS_elim r71
    refine Rf.ldS (h72.at 0 rfl) ?_
    refine Rf.call0 C61 (t23 n x63 (⟨#[32]⟩ : ByteArray) s60 (C61.gl rfl gl0)) ?_
    rintro r74 _ s75 rfl h79
    have C80 : Cx s0.next [] [] s0 s75 [] [(On.mk rS y14 A15 c16 9 false e17), (On.mk rS r1 A3 c4 9 true e6)] [] := h79 [] (by simp) List.Pairwise.nil
    refine (Rf.asTup (Rf.unc (Rf.asS (Rf.unc (Rf.asS (Rf.unc (Rf.asB (Rf.unn ?_))))))))
    refine Rf.call0 C80 (t15 n r74.1 s75 (C80.gl rfl gl0)) ?_
    rintro r81 _ s82 rfl h85
    have C86 : Cx s0.next [] [] s0 s82 [] [(On.mk rS y14 A15 c16 9 false e17), (On.mk rS r1 A3 c4 9 true e6)] [] := h85 [] (by simp) List.Pairwise.nil
    refine (Rf.asTup (Rf.unc (Rf.asI (Rf.unc (Rf.asB (Rf.unn ?_))))))
    refine Rf.pj fun J92 J92' hJ92 hJ92' => ?_
    have J92h : ∀ (b93 : Bool) (s95 : St) (_ : Cx s0.next [] [] s0 s95 [] [(On.mk rS y14 A15 c16 9 false e17), (On.mk rS r1 A3 c4 9 true e6)] []), Rf (J92 b93) H Q (J92' b93 s95) := by
      subst hJ92
      subst hJ92'
      intro b93 s95 C96
      refine Rf.ite ?_ ?_
      · refine Rf.newR (r := rS) (xs := [r74.1]) C96 rfl (many.cons (c := [(Value.string r74.1)]) rS_mk many.nil) fun s97 (C98 : Cx s0.next [] [] s0 s97 [] [(On.mk rS [r74.1] (some ⟨s95.next, 0, none⟩) 1 9 false s95.next), (On.mk rS y14 A15 c16 9 false e17), (On.mk rS r1 A3 c4 9 true e6)] []) => ?_
        refine Rf.kapp 1 C98 rfl rfl (by decide) (by decide) (Ap.sr u31 rfl (C98.srB m0)) fun A100 c101 e102 s105 (C106 : Cx s0.next [] [] s0 s105 [] [(On.mk rS [r74.1] (some ⟨s95.next, 0, none⟩) 1 9 false s95.next), (On.mk rS (y14 ++ [r74.1]) A100 c101 9 false e102), (On.mk rS r1 A3 c4 9 true e6)] []) => ?_
        have C107 : Cx s0.next [] [] s0 s105 [] [(On.mk rS (y14 ++ [r74.1]) A100 c101 9 false e102), (On.mk rS r1 A3 c4 9 true e6)] [] := C106.sub (List.Sublist.refl _) (List.Sublist.cons _ (List.Sublist.cons_cons _ (List.Sublist.cons_cons _ List.Sublist.slnil))) (List.Sublist.refl _)
        exact J109h _ _ A100 c101 e102 (y14 ++ [r74.1]) _ (C107.sub (List.Sublist.refl _) (List.Sublist.refl _) (List.Sublist.refl _))
      · exact J109h _ _ A15 c16 e17 y14 _ (C96.sub (List.Sublist.refl _) (List.Sublist.refl _) (List.Sublist.refl _))
    clear hJ92 hJ92'
    refine Rf.ite ?_ ?_
    · refine Rf.call0 C86 (t18 n r74.1 (⟨#[46]⟩ : ByteArray) s82 (C86.gl rfl gl0)) ?_
      rintro r87 _ s88 rfl h90
      have C91 : Cx s0.next [] [] s0 s88 [] [(On.mk rS y14 A15 c16 9 false e17), (On.mk rS r1 A3 c4 9 true e6)] [] := h90 [] (by simp) List.Pairwise.nil
      refine (Rf.asB ?_)
      exact J92h (!r87) _ (C91.sub (List.Sublist.refl _) (List.Sublist.refl _) (List.Sublist.refl _))
    · exact J92h false _ (C86.sub (List.Sublist.refl _) (List.Sublist.refl _) (List.Sublist.refl _))
  · subst hH; subst hQ
    exact Rf.leaf fun h => h _ _ _ ⟨_, _, _, rfl, rfl, (C61.sub (List.Sublist.refl _) (List.Sublist.refl _) (List.Sublist.refl _))⟩
abbrev P12 (N : Nat) (X : List Nat) (r : (List ByteArray)) (v : Value) (s : St) : Prop := ∃ (A0 : Option Addr) (c0 : Nat) (e0 : Nat), v = (Value.slice A0 (r).length c0) ∧ (On.mk rS r A0 c0 9 true e0).holds N X s
def p12 : Nat → Option (List ByteArray)
  | 0 => none
  | n + 1 => (((p22 n (⟨#[97, 98, 115, 32, 118, 10, 97, 108, 108, 32, 118, 10, 97, 110, 121, 32, 118, 10, 97, 98, 115, 116, 114, 97, 99, 116, 32, 102, 10, 99, 104, 114, 32, 110, 10, 99, 111, 108, 108, 101, 99, 116, 10, 100, 101, 114, 105, 118, 101, 115, 32, 99, 32, 100, 10, 100, 105, 118, 109, 111, 100, 32, 97, 32, 98, 10, 100, 114, 111, 112, 32, 118, 32, 110, 97, 109, 101, 10, 101, 110, 117, 109, 101, 114, 97, 116, 101, 32, 118, 32, 115, 116, 97, 114, 116, 61, 48, 10, 103, 101, 116, 32, 118, 32, 110, 97, 109, 101, 32, 100, 101, 102, 97, 117, 108, 116, 61, 63, 10, 104, 97, 115, 32, 118, 32, 110, 97, 109, 101, 10, 105, 115, 95, 97, 32, 118, 32, 99, 10, 105, 116, 101, 114, 32, 118, 10, 108, 101, 110, 32, 118, 10, 109, 97, 120, 32, 42, 118, 97, 108, 117, 101, 115, 32, 107, 101, 121, 61, 45, 10, 109, 105, 110, 32, 42, 118, 97, 108, 117, 101, 115, 32, 107, 101, 121, 61, 45, 10, 110, 97, 109, 101, 115, 32, 118, 10, 110, 101, 120, 116, 32, 105, 116, 32, 100, 101, 102, 97, 117, 108, 116, 61, 63, 10, 110, 111, 119, 10, 111, 114, 100, 32, 115, 10, 112, 114, 105, 110, 116, 32, 42, 118, 97, 108, 117, 101, 115, 32, 115, 101, 112, 61, 95, 32, 101, 110, 100, 61, 47, 10, 112, 117, 116, 32, 118, 32, 110, 97, 109, 101, 32, 119, 10, 114, 97, 110, 103, 101, 32, 97, 32, 98, 61, 63, 32, 99, 61, 49, 10, 114, 101, 108, 111, 97, 100, 32, 109, 10, 114, 101, 112, 114, 32, 118, 10, 114, 101, 118, 101, 114, 115, 101, 100, 32, 118, 10, 114, 111, 117, 110, 100, 32, 118, 32, 100, 105, 103, 105, 116, 115, 61, 48, 10, 114, 117, 110, 32, 99, 10, 115, 108, 101, 101, 112, 32, 110, 10, 115, 111, 114, 116, 101, 100, 32, 118, 32, 107, 101, 121, 61, 45, 32, 114, 101, 118, 101, 114, 115, 101, 61, 33, 10, 115, 112, 97, 119, 110, 32, 99, 10, 115, 117, 109, 32, 118, 32, 115, 116, 97, 114, 116, 61, 48, 10, 122, 105, 112, 32, 42, 118, 97, 108, 117, 101, 115, 10, 99, 108, 97, 115, 115, 32, 118, 10, 98, 111, 111, 108, 32, 118, 61, 33, 10, 105, 110, 116, 32, 118, 61, 48, 32, 98, 97, 115, 101, 61, 49, 48, 10, 114, 97, 116, 105, 111, 32, 118, 10, 116, 101, 120, 116, 32, 118, 61, 35, 10, 98, 121, 116, 101, 115, 32, 118, 61, 63, 10, 116, 117, 112, 108, 101, 32, 118, 61, 63, 10, 108, 105, 115, 116, 32, 118, 61, 63, 10, 115, 101, 116, 32, 118, 61, 63, 10, 100, 105, 99, 116, 32, 118, 61, 63, 10, 112, 114, 111, 112, 101, 114, 116, 121, 32, 103, 101, 116, 116, 101, 114, 32, 115, 101, 116, 116, 101, 114, 61, 45, 32, 100, 101, 108, 101, 116, 101, 114, 61, 45, 10, 115, 116, 97, 116, 105, 99, 32, 102, 10, 99, 108, 97, 115, 115, 95, 109, 101, 116, 104, 111, 100, 32, 102, 10, 119, 101, 97, 107, 32, 118, 10, 105, 110, 116, 46, 98, 105, 116, 115, 10, 114, 97, 116, 105, 111, 46, 100, 101, 110, 10, 114, 97, 116, 105, 111, 46, 110, 117, 109, 10, 116, 101, 120, 116, 46, 99, 111, 117, 110, 116, 32, 120, 10, 116, 101, 120, 116, 46, 101, 110, 99, 111, 100, 101, 10, 116, 101, 120, 116, 46, 101, 110, 100, 115, 95, 119, 105, 116, 104, 32, 120, 10, 116, 101, 120, 116, 46, 102, 105, 110, 100, 32, 120, 32, 115, 116, 97, 114, 116, 61, 48, 10, 116, 101, 120, 116, 46, 106, 111, 105, 110, 32, 118, 10, 116, 101, 120, 116, 46, 108, 111, 119, 101, 114, 10, 116, 101, 120, 116, 46, 114, 101, 112, 108, 97, 99, 101, 32, 97, 32, 98, 32, 109, 111, 115, 116, 61, 45, 49, 10, 116, 101, 120, 116, 46, 115, 112, 108, 105, 116, 32, 115, 101, 112, 61, 45, 32, 109, 111, 115, 116, 61, 45, 49, 10, 116, 101, 120, 116, 46, 115, 116, 97, 114, 116, 115, 95, 119, 105, 116, 104, 32, 120, 10, 116, 101, 120, 116, 46, 115, 116, 114, 105, 112, 32, 99, 104, 97, 114, 115, 61, 45, 10, 116, 101, 120, 116, 46, 117, 112, 112, 101, 114, 10, 98, 121, 116, 101, 115, 46, 100, 101, 99, 111, 100, 101, 10, 98, 121, 116, 101, 115, 46, 102, 105, 110, 100, 32, 120, 32, 115, 116, 97, 114, 116, 61, 48, 10, 98, 121, 116, 101, 115, 46, 104, 101, 120, 10, 116, 117, 112, 108, 101, 46, 99, 111, 117, 110, 116, 32, 118, 10, 116, 117, 112, 108, 101, 46, 105, 110, 100, 101, 120, 32, 118, 10, 108, 105, 115, 116, 46, 97, 112, 112, 101, 110, 100, 32, 118, 10, 108, 105, 115, 116, 46, 99, 108, 101, 97, 114, 10, 108, 105, 115, 116, 46, 99, 111, 112, 121, 10, 108, 105, 115, 116, 46, 99, 111, 117, 110, 116, 32, 118, 10, 108, 105, 115, 116, 46, 101, 120, 116, 101, 110, 100, 32, 118, 10, 108, 105, 115, 116, 46, 105, 110, 100, 101, 120, 32, 118, 10, 108, 105, 115, 116, 46, 105, 110, 115, 101, 114, 116, 32, 105, 32, 118, 10, 108, 105, 115, 116, 46, 112, 111, 112, 32, 105, 61, 45, 49, 10, 108, 105, 115, 116, 46, 114, 101, 109, 111, 118, 101, 32, 118, 10, 108, 105, 115, 116, 46, 114, 101, 118, 101, 114, 115, 101, 10, 108, 105, 115, 116, 46, 115, 111, 114, 116, 32, 107, 101, 121, 61, 45, 32, 114, 101, 118, 101, 114, 115, 101, 61, 33, 10, 100, 105, 99, 116, 46, 99, 108, 101, 97, 114, 10, 100, 105, 99, 116, 46, 99, 111, 112, 121, 10, 100, 105, 99, 116, 46, 103, 101, 116, 32, 107, 32, 100, 101, 102, 97, 117, 108, 116, 61, 45, 10, 100, 105, 99, 116, 46, 105, 116, 101, 109, 115, 10, 100, 105, 99, 116, 46, 107, 101, 121, 115, 10, 100, 105, 99, 116, 46, 112, 111, 112, 32, 107, 32, 100, 101, 102, 97, 117, 108, 116, 61, 63, 10, 100, 105, 99, 116, 46, 115, 101, 116, 95, 100, 101, 102, 97, 117, 108, 116, 32, 107, 32, 118, 61, 45, 10, 100, 105, 99, 116, 46, 117, 112, 100, 97, 116, 101, 32, 100, 10, 100, 105, 99, 116, 46, 118, 97, 108, 117, 101, 115, 10, 115, 101, 116, 46, 97, 100, 100, 32, 118, 10, 115, 101, 116, 46, 99, 108, 101, 97, 114, 10, 115, 101, 116, 46, 99, 111, 112, 121, 10, 115, 101, 116, 46, 100, 105, 115, 99, 97, 114, 100, 32, 118, 10, 115, 101, 116, 46, 114, 101, 109, 111, 118, 101, 32, 118, 10, 112, 114, 111, 112, 101, 114, 116, 121, 46, 119, 105, 116, 104, 95, 100, 101, 108, 101, 116, 101, 114, 32, 102, 10, 112, 114, 111, 112, 101, 114, 116, 121, 46, 119, 105, 116, 104, 95, 115, 101, 116, 116, 101, 114, 32, 102, 10, 103, 101, 110, 101, 114, 97, 116, 111, 114, 46, 99, 108, 111, 115, 101, 10, 103, 101, 110, 101, 114, 97, 116, 111, 114, 46, 115, 101, 110, 100, 32, 118, 10, 103, 101, 110, 101, 114, 97, 116, 111, 114, 46, 116, 104, 114, 111, 119, 32, 120, 10, 116, 97, 115, 107, 46, 99, 97, 110, 99, 101, 108, 10, 116, 97, 115, 107, 46, 100, 111, 110, 101]⟩ : ByteArray) (⟨#[10]⟩ : ByteArray)).bind fun r1 => ((loopP (pb12_1 n r1) n (([] : List ByteArray), 0)).bind fun t126 => srtP n t126.1 (fun y172 => ((some ((sortL t126.1) : (List ByteArray))))))))
theorem t12 (k : Nat) (s0 : St) (gl0 : GlobOk s0) :
    Rf (p12 k) (fun _ => True) (fun r => RtC s0.next [] [] s0 (P12 s0.next [] r)) (acall E k 12 [] s0) := by
  cases k with
  | zero => exact Rf.none
  | succ n =>
    rw [e12 n]
    rw [p12]
    refine Rf.gen fun H Q hH hQ => ?_
    have C0 : Cx s0.next [] [] s0 s0 [] [] [] := Cx.start s0
    refine Rf.call0 C0 (t22 n (⟨#[97, 98, 115, 32, 118, 10, 97, 108, 108, 32, 118, 10, 97, 110, 121, 32, 118, 10, 97, 98, 115, 116, 114, 97, 99, 116, 32, 102, 10, 99, 104, 114, 32, 110, 10, 99, 111, 108, 108, 101, 99, 116, 10, 100, 101, 114, 105, 118, 101, 115, 32, 99, 32, 100, 10, 100, 105, 118, 109, 111, 100, 32, 97, 32, 98, 10, 100, 114, 111, 112, 32, 118, 32, 110, 97, 109, 101, 10, 101, 110, 117, 109, 101, 114, 97, 116, 101, 32, 118, 32, 115, 116, 97, 114, 116, 61, 48, 10, 103, 101, 116, 32, 118, 32, 110, 97, 109, 101, 32, 100, 101, 102, 97, 117, 108, 116, 61, 63, 10, 104, 97, 115, 32, 118, 32, 110, 97, 109, 101, 10, 105, 115, 95, 97, 32, 118, 32, 99, 10, 105, 116, 101, 114, 32, 118, 10, 108, 101, 110, 32, 118, 10, 109, 97, 120, 32, 42, 118, 97, 108, 117, 101, 115, 32, 107, 101, 121, 61, 45, 10, 109, 105, 110, 32, 42, 118, 97, 108, 117, 101, 115, 32, 107, 101, 121, 61, 45, 10, 110, 97, 109, 101, 115, 32, 118, 10, 110, 101, 120, 116, 32, 105, 116, 32, 100, 101, 102, 97, 117, 108, 116, 61, 63, 10, 110, 111, 119, 10, 111, 114, 100, 32, 115, 10, 112, 114, 105, 110, 116, 32, 42, 118, 97, 108, 117, 101, 115, 32, 115, 101, 112, 61, 95, 32, 101, 110, 100, 61, 47, 10, 112, 117, 116, 32, 118, 32, 110, 97, 109, 101, 32, 119, 10, 114, 97, 110, 103, 101, 32, 97, 32, 98, 61, 63, 32, 99, 61, 49, 10, 114, 101, 108, 111, 97, 100, 32, 109, 10, 114, 101, 112, 114, 32, 118, 10, 114, 101, 118, 101, 114, 115, 101, 100, 32, 118, 10, 114, 111, 117, 110, 100, 32, 118, 32, 100, 105, 103, 105, 116, 115, 61, 48, 10, 114, 117, 110, 32, 99, 10, 115, 108, 101, 101, 112, 32, 110, 10, 115, 111, 114, 116, 101, 100, 32, 118, 32, 107, 101, 121, 61, 45, 32, 114, 101, 118, 101, 114, 115, 101, 61, 33, 10, 115, 112, 97, 119, 110, 32, 99, 10, 115, 117, 109, 32, 118, 32, 115, 116, 97, 114, 116, 61, 48, 10, 122, 105, 112, 32, 42, 118, 97, 108, 117, 101, 115, 10, 99, 108, 97, 115, 115, 32, 118, 10, 98, 111, 111, 108, 32, 118, 61, 33, 10, 105, 110, 116, 32, 118, 61, 48, 32, 98, 97, 115, 101, 61, 49, 48, 10, 114, 97, 116, 105, 111, 32, 118, 10, 116, 101, 120, 116, 32, 118, 61, 35, 10, 98, 121, 116, 101, 115, 32, 118, 61, 63, 10, 116, 117, 112, 108, 101, 32, 118, 61, 63, 10, 108, 105, 115, 116, 32, 118, 61, 63, 10, 115, 101, 116, 32, 118, 61, 63, 10, 100, 105, 99, 116, 32, 118, 61, 63, 10, 112, 114, 111, 112, 101, 114, 116, 121, 32, 103, 101, 116, 116, 101, 114, 32, 115, 101, 116, 116, 101, 114, 61, 45, 32, 100, 101, 108, 101, 116, 101, 114, 61, 45, 10, 115, 116, 97, 116, 105, 99, 32, 102, 10, 99, 108, 97, 115, 115, 95, 109, 101, 116, 104, 111, 100, 32, 102, 10, 119, 101, 97, 107, 32, 118, 10, 105, 110, 116, 46, 98, 105, 116, 115, 10, 114, 97, 116, 105, 111, 46, 100, 101, 110, 10, 114, 97, 116, 105, 111, 46, 110, 117, 109, 10, 116, 101, 120, 116, 46, 99, 111, 117, 110, 116, 32, 120, 10, 116, 101, 120, 116, 46, 101, 110, 99, 111, 100, 101, 10, 116, 101, 120, 116, 46, 101, 110, 100, 115, 95, 119, 105, 116, 104, 32, 120, 10, 116, 101, 120, 116, 46, 102, 105, 110, 100, 32, 120, 32, 115, 116, 97, 114, 116, 61, 48, 10, 116, 101, 120, 116, 46, 106, 111, 105, 110, 32, 118, 10, 116, 101, 120, 116, 46, 108, 111, 119, 101, 114, 10, 116, 101, 120, 116, 46, 114, 101, 112, 108, 97, 99, 101, 32, 97, 32, 98, 32, 109, 111, 115, 116, 61, 45, 49, 10, 116, 101, 120, 116, 46, 115, 112, 108, 105, 116, 32, 115, 101, 112, 61, 45, 32, 109, 111, 115, 116, 61, 45, 49, 10, 116, 101, 120, 116, 46, 115, 116, 97, 114, 116, 115, 95, 119, 105, 116, 104, 32, 120, 10, 116, 101, 120, 116, 46, 115, 116, 114, 105, 112, 32, 99, 104, 97, 114, 115, 61, 45, 10, 116, 101, 120, 116, 46, 117, 112, 112, 101, 114, 10, 98, 121, 116, 101, 115, 46, 100, 101, 99, 111, 100, 101, 10, 98, 121, 116, 101, 115, 46, 102, 105, 110, 100, 32, 120, 32, 115, 116, 97, 114, 116, 61, 48, 10, 98, 121, 116, 101, 115, 46, 104, 101, 120, 10, 116, 117, 112, 108, 101, 46, 99, 111, 117, 110, 116, 32, 118, 10, 116, 117, 112, 108, 101, 46, 105, 110, 100, 101, 120, 32, 118, 10, 108, 105, 115, 116, 46, 97, 112, 112, 101, 110, 100, 32, 118, 10, 108, 105, 115, 116, 46, 99, 108, 101, 97, 114, 10, 108, 105, 115, 116, 46, 99, 111, 112, 121, 10, 108, 105, 115, 116, 46, 99, 111, 117, 110, 116, 32, 118, 10, 108, 105, 115, 116, 46, 101, 120, 116, 101, 110, 100, 32, 118, 10, 108, 105, 115, 116, 46, 105, 110, 100, 101, 120, 32, 118, 10, 108, 105, 115, 116, 46, 105, 110, 115, 101, 114, 116, 32, 105, 32, 118, 10, 108, 105, 115, 116, 46, 112, 111, 112, 32, 105, 61, 45, 49, 10, 108, 105, 115, 116, 46, 114, 101, 109, 111, 118, 101, 32, 118, 10, 108, 105, 115, 116, 46, 114, 101, 118, 101, 114, 115, 101, 10, 108, 105, 115, 116, 46, 115, 111, 114, 116, 32, 107, 101, 121, 61, 45, 32, 114, 101, 118, 101, 114, 115, 101, 61, 33, 10, 100, 105, 99, 116, 46, 99, 108, 101, 97, 114, 10, 100, 105, 99, 116, 46, 99, 111, 112, 121, 10, 100, 105, 99, 116, 46, 103, 101, 116, 32, 107, 32, 100, 101, 102, 97, 117, 108, 116, 61, 45, 10, 100, 105, 99, 116, 46, 105, 116, 101, 109, 115, 10, 100, 105, 99, 116, 46, 107, 101, 121, 115, 10, 100, 105, 99, 116, 46, 112, 111, 112, 32, 107, 32, 100, 101, 102, 97, 117, 108, 116, 61, 63, 10, 100, 105, 99, 116, 46, 115, 101, 116, 95, 100, 101, 102, 97, 117, 108, 116, 32, 107, 32, 118, 61, 45, 10, 100, 105, 99, 116, 46, 117, 112, 100, 97, 116, 101, 32, 100, 10, 100, 105, 99, 116, 46, 118, 97, 108, 117, 101, 115, 10, 115, 101, 116, 46, 97, 100, 100, 32, 118, 10, 115, 101, 116, 46, 99, 108, 101, 97, 114, 10, 115, 101, 116, 46, 99, 111, 112, 121, 10, 115, 101, 116, 46, 100, 105, 115, 99, 97, 114, 100, 32, 118, 10, 115, 101, 116, 46, 114, 101, 109, 111, 118, 101, 32, 118, 10, 112, 114, 111, 112, 101, 114, 116, 121, 46, 119, 105, 116, 104, 95, 100, 101, 108, 101, 116, 101, 114, 32, 102, 10, 112, 114, 111, 112, 101, 114, 116, 121, 46, 119, 105, 116, 104, 95, 115, 101, 116, 116, 101, 114, 32, 102, 10, 103, 101, 110, 101, 114, 97, 116, 111, 114, 46, 99, 108, 111, 115, 101, 10, 103, 101, 110, 101, 114, 97, 116, 111, 114, 46, 115, 101, 110, 100, 32, 118, 10, 103, 101, 110, 101, 114, 97, 116, 111, 114, 46, 116, 104, 114, 111, 119, 32, 120, 10, 116, 97, 115, 107, 46, 99, 97, 110, 99, 101, 108, 10, 116, 97, 115, 107, 46, 100, 111, 110, 101]⟩ : ByteArray) (⟨#[10]⟩ : ByteArray) s0 (C0.gl rfl gl0)) ?_
    rintro r1 _ s2 ⟨A3, c4, e6, rfl, h5⟩ h9
    have C10 : Cx s0.next [] [] s0 s2 [] [(On.mk rS r1 A3 c4 9 true e6)] [] := h9 [(On.mk rS r1 A3 c4 9 true e6)] (by simpa using h5) (List.pairwise_singleton _ _)
    refine (Rf.asSl ?_)
    have C11 : Cx s0.next [] [] s0 s2 [] [(On.mk rS ([] : List ByteArray) none 0 9 false 0), (On.mk rS r1 A3 c4 9 true e6)] [] := C10.addNil rS 9
    refine Rf.loop (Inv := Inv12_1 s0 gl0 A3 c4 e6 r1) (Ex := Ex12_1 s0 gl0 A3 c4 e6 r1) (x12_1 s0 gl0 A3 c4 e6 r1) (fun t g s K Q h => b12_1 n s0 gl0 A3 c4 e6 r1 t g s K Q h) n _ _ _ ⟨_, _, _, rfl, (C11.sub (List.Sublist.refl _) (List.Sublist.refl _) (List.Sublist.refl _))⟩ ?_
    intro t126 e g s168 h
    obtain ⟨A122, c123, e124, rfl, rfl, C169⟩ := h
    rw [e12_after0_exit0 n]
    have C170 : Cx s0.next [] [] s0 s168 [] [(On.mk rS t126.1 A122 c123 9 true e124), (On.mk rS r1 A3 c4 9 true e6)] [] := C169.toW NoRow.nil (j := 0) rfl
    refine Rf.sortW 0 C170 rfl rfl rfl NoRow.nil (fl_cons rS_fl (fl_cons rS_fl fl_nil)) rfl fun s173 (C174 : Cx s0.next [] [] s0 s173 [] [(On.mk rS (sortL t126.1) A122 c123 9 true e124), (On.mk rS r1 A3 c4 9 true e6)] []) => ?_
    subst hH; subst hQ
    exact Rf.leaf fun _ => Ev.done (Rf.ret C174 ⟨_, _, _, (by first | rfl | assumption | (simp only [List.length_set]; done) | (simp only [List.length_set]; assumption) | (simp only [List.length_set]; omega) | (congr 1 <;> omega) | (congr 1 <;> simp only [List.length_set] <;> omega) | (simp only [List.length_set, *]; done) | (exact (sortL_length _).symm) | (simp only [sortL_length, *]; done)), C174.own _ m0⟩)
-- 70 "brindlewood/brindlewoodref7.B"
abbrev P70 (N : Nat) (X : List Nat) (r : (Int × (Bool × (List Int)) × (Bool × (List Int)) × ByteArray × Int)) (v : Value) (s : St) : Prop := ∃ (A0 : Option Addr) (c0 : Nat) (A2 : Option Addr) (c2 : Nat), v = (Value.agg #[(Value.int .i64 r.1), (Value.bool r.2.1.1), (Value.slice A0 (r.2.1.2).length c0), (Value.bool r.2.2.1.1), (Value.slice A2 (r.2.2.1.2).length c2), (Value.string r.2.2.2.1), (Value.int .i64 r.2.2.2.2)]) ∧ Sr (rI .u32) s A0 c0 r.2.1.2 ∧ Sr (rI .u32) s A2 c2 r.2.2.1.2
def p70 : Nat → Bool → Option (Int × (Bool × (List Int)) × (Bool × (List Int)) × ByteArray × Int)
  | 0, _ => none
  | n + 1, p0 => ((if p0 then (((some ((1, (false, ([] : (List Int))), (false, ([] : (List Int))), ByteArray.empty, 1) : (Int × (Bool × (List Int)) × (Bool × (List Int)) × ByteArray × Int))))) else (((some ((1, (false, ([] : (List Int))), (false, ([] : (List Int))), ByteArray.empty, 0) : (Int × (Bool × (List Int)) × (Bool × (List Int)) × ByteArray × Int)))))))
theorem t70 (k : Nat) (p0 : Bool) (s0 : St) (gl0 : GlobOk s0) :
    Rf (p70 k p0) (fun _ => True) (fun r => RtC s0.next [] [] s0 (P70 s0.next [] r)) (acall E k 70 [(Value.bool p0)] s0) := by
  cases k with
  | zero => exact Rf.none
  | succ n =>
    rw [e70 n]
    rw [p70]
    refine Rf.gen fun H Q hH hQ => ?_
    have C0 : Cx s0.next [] [] s0 s0 [] [] [] := Cx.start s0
    refine Rf.new C0 fun s1 (C2 : Cx s0.next [] [] s0 s1 [(s0.next, AObj.box 26 [(Value.int .i64 0), (Value.bool false), (Value.slice none 0 0), (Value.bool false), (Value.slice none 0 0), (Value.string ByteArray.empty), (Value.int .i64 0)])] [] []) => ?_
    refine Rf.ite ?_ ?_
    · refine Rf.sto 0 C2 rfl (by simp) rfl fun s4 (C5 : Cx s0.next [] [] s0 s4 [(s0.next, AObj.box 26 [(Value.int .i64 1), (Value.bool false), (Value.slice none 0 0), (Value.bool false), (Value.slice none 0 0), (Value.string ByteArray.empty), (Value.int .i64 1)])] [] []) => ?_
      refine Rf.ldI (C5.at m0 rfl) ?_
      refine Rf.ldB (C5.at m0 rfl) ?_
      refine Rf.ldSl (C5.at m0 rfl) ?_
      refine Rf.ldB (C5.at m0 rfl) ?_
      refine Rf.ldSl (C5.at m0 rfl) ?_
      refine Rf.ldS (C5.at m0 rfl) ?_
      refine Rf.ldI (C5.at m0 rfl) ?_
      subst hH; subst hQ
      exact Rf.leaf fun _ => Ev.done (Rf.ret C5 ⟨_, _, _, _, rfl, Sr.nil, Sr.nil⟩)
    · refine Rf.sto 0 C2 rfl (by simp) rfl fun s13 (C14 : Cx s0.next [] [] s0 s13 [(s0.next, AObj.box 26 [(Value.int .i64 1), (Value.bool false), (Value.slice none 0 0), (Value.bool false), (Value.slice none 0 0), (Value.string ByteArray.empty), (Value.int .i64 0)])] [] []) => ?_
      refine Rf.ldI (C14.at m0 rfl) ?_
      refine Rf.ldB (C14.at m0 rfl) ?_
      refine Rf.ldSl (C14.at m0 rfl) ?_
      refine Rf.ldB (C14.at m0 rfl) ?_
      refine Rf.ldSl (C14.at m0 rfl) ?_
      refine Rf.ldS (C14.at m0 rfl) ?_
      refine Rf.ldI (C14.at m0 rfl) ?_
      subst hH; subst hQ
      exact Rf.leaf fun _ => Ev.done (Rf.ret C14 ⟨_, _, _, _, rfl, Sr.nil, Sr.nil⟩)
-- 71 "brindlewood/brindlewoodref7.T"
abbrev P71 (N : Nat) (X : List Nat) (r : (Int × (Bool × (List Int)) × (Bool × (List Int)) × ByteArray × Int)) (v : Value) (s : St) : Prop := ∃ (A0 : Option Addr) (c0 : Nat) (A2 : Option Addr) (c2 : Nat), v = (Value.agg #[(Value.int .i64 r.1), (Value.bool r.2.1.1), (Value.slice A0 (r.2.1.2).length c0), (Value.bool r.2.2.1.1), (Value.slice A2 (r.2.2.1.2).length c2), (Value.string r.2.2.2.1), (Value.int .i64 r.2.2.2.2)]) ∧ Sr (rI .u32) s A0 c0 r.2.1.2 ∧ Sr (rI .u32) s A2 c2 r.2.2.1.2
def p71 : Nat → ByteArray → Option (Int × (Bool × (List Int)) × (Bool × (List Int)) × ByteArray × Int)
  | 0, _ => none
  | n + 1, p0 => ((some ((4, (false, ([] : (List Int))), (false, ([] : (List Int))), p0, 0) : (Int × (Bool × (List Int)) × (Bool × (List Int)) × ByteArray × Int))))
theorem t71 (k : Nat) (p0 : ByteArray) (s0 : St) (gl0 : GlobOk s0) :
    Rf (p71 k p0) (fun _ => True) (fun r => RtC s0.next [] [] s0 (P71 s0.next [] r)) (acall E k 71 [(Value.string p0)] s0) := by
  cases k with
  | zero => exact Rf.none
  | succ n =>
    rw [e71 n]
    rw [p71]
    refine Rf.gen fun H Q hH hQ => ?_
    have C0 : Cx s0.next [] [] s0 s0 [] [] [] := Cx.start s0
    refine Rf.new C0 fun s1 (C2 : Cx s0.next [] [] s0 s1 [(s0.next, AObj.box 26 [(Value.int .i64 0), (Value.bool false), (Value.slice none 0 0), (Value.bool false), (Value.slice none 0 0), (Value.string ByteArray.empty), (Value.int .i64 0)])] [] []) => ?_
    refine Rf.sto 0 C2 rfl (by simp) rfl fun s4 (C5 : Cx s0.next [] [] s0 s4 [(s0.next, AObj.box 26 [(Value.int .i64 4), (Value.bool false), (Value.slice none 0 0), (Value.bool false), (Value.slice none 0 0), (Value.string p0), (Value.int .i64 0)])] [] []) => ?_
    refine Rf.ldI (C5.at m0 rfl) ?_
    refine Rf.ldB (C5.at m0 rfl) ?_
    refine Rf.ldSl (C5.at m0 rfl) ?_
    refine Rf.ldB (C5.at m0 rfl) ?_
    refine Rf.ldSl (C5.at m0 rfl) ?_
    refine Rf.ldS (C5.at m0 rfl) ?_
    refine Rf.ldI (C5.at m0 rfl) ?_
    subst hH; subst hQ
    exact Rf.leaf fun _ => Ev.done (Rf.ret C5 ⟨_, _, _, _, rfl, Sr.nil, Sr.nil⟩)
-- 98 "brindlewood/brindlewoodref3.trim"
abbrev Inv98_1 (s0 : St) (p0 : (List Int)) (A0 : Option Addr) (c0 : Nat) (gl0 : GlobOk s0) (h0 : Sr (rI .i64) s0 A0 c0 p0)  (t : (List Int)) (g : Regs) (s : St) : Prop := ∃ (A2 : Option Addr) (c3 : Nat), g = (rg 21 [(0, (Value.slice A2 (t).length c3))]) ∧ Cx s0.next [] [] s0 s [] [] [(Fa.sr (rI .i64) A2 c3 t)]
abbrev Ex98_1 (s0 : St) (p0 : (List Int)) (A0 : Option Addr) (c0 : Nat) (gl0 : GlobOk s0) (h0 : Sr (rI .i64) s0 A0 c0 p0)  (t : (List Int)) (e : X) (g : Regs) (s : St) : Prop := ∃ (A54 : Option Addr) (c55 : Nat), e = .exit 0 ∧ g = (rg 21 [(0, (Value.slice A54 (t).length c55)), (14, (Value.bool false))]) ∧ Cx s0.next [] [] s0 s [] [] [(Fa.sr (rI .i64) A54 c55 t)]
theorem x98_1 (s0 : St) (p0 : (List Int)) (A0 : Option Addr) (c0 : Nat) (gl0 : GlobOk s0) (h0 : Sr (rI .i64) s0 A0 c0 p0)  (t : (List Int)) (e : X) (g : Regs) (s : St) (h : Ex98_1 s0 p0 A0 c0 gl0 h0  t e g s) : e ≠ .normal := by
  obtain ⟨_, _, h, _⟩ := h
  rw [h]; intro hh; cases hh
def pb98_1 (n : Nat)  (t : (List Int)) : Option ((List Int) ⊕ (List Int)) :=
  pj (fun (b42 : Bool) => if b42 then ((slP t 0 (IntKind.wrap .i64 (((t).length : Nat) - 1)) (fun y50 => (some (.inl y50))))) else (((some (.inr t))))) (fun J40 => if (decide ((((t).length : Nat) : Int) > 0)) then (rd t (IntKind.wrap .i64 (((t).length : Nat) - 1)) (fun x33 => (J40 ((x33 : Int) == 0)))) else ((J40 false)))
theorem b98_1 (n : Nat) (s0 : St) (p0 : (List Int)) (A0 : Option Addr) (c0 : Nat) (gl0 : GlobOk s0) (h0 : Sr (rI .i64) s0 A0 c0 p0)  (y4 : (List Int)) (g : Regs) (s28 : St) (K : Kont) (Q : Out → St → Prop) (h : Inv98_1 s0 p0 A0 c0 gl0 h0  y4 g s28) :
    Rf (pb98_1 n y4) (fun r => ∀ e g' s', LK (Inv98_1 s0 p0 A0 c0 gl0 h0 ) (Ex98_1 s0 p0 A0 c0 gl0 h0 ) r e g' s' → Ev (K e g' s') Q) (fun _ => Q) (kBody E 98 n [.b, .a, .a, .a] g s28 K) := by
  obtain ⟨A2, c3, rfl, C29⟩ := h
  rw [e98_body0 n]
  unfold pb98_1
  refine Rf.gen fun H Q hH hQ => ?_
  refine Rf.pj fun J40 J40' hJ40 hJ40' => ?_
  have J40h : ∀ (b42 : Bool) (_ : Cx s0.next [] [] s0 s28 [] [] [(Fa.sr (rI .i64) A2 c3 y4)]), Rf (J40 b42) H Q (J40' b42) := by
    subst hJ40
    subst hJ40'
    intro b42 C44
    refine Rf.ite ?_ ?_
    · refine Rf.asSl ?_
      refine Rf.ksl (r := (rI .i64)) u116 (by kernel_rfl) (C44.srG m0) rfl rfl fun y50 A46 c47 h48 => ?_
      have C51 := C44.add (Fa.sr (rI .i64) A46 c47 y50) h48
      subst hH; subst hQ
      exact Rf.leaf fun h => h _ _ _ ⟨rfl, _, _, rfl, (C51.sub (List.Sublist.refl _) (List.Sublist.refl _) (List.Sublist.cons_cons _ (List.Sublist.cons _ List.Sublist.slnil)))⟩
    · subst hH; subst hQ
      exact Rf.leaf fun h => h _ _ _ ⟨_, _, rfl, rfl, (C44.sub (List.Sublist.refl _) (List.Sublist.refl _) (List.Sublist.refl _))⟩
  clear hJ40 hJ40'
  refine Rf.asSl ?_
  refine Rf.ite ?_ ?_
  · refine Rf.asSl ?_
    refine Rf.asSl ?_
    refine Rf.elt (r := (rI .i64)) (C29.srG m0) rfl fun x33 i34 o35 c36 r37 h38 => ?_
    obtain rfl := rI_elim r37
    refine Rf.ldI (h38.at 0 rfl) ?_
    exact J40h ((x33 : Int) == 0) (C29.sub (List.Sublist.refl _) (List.Sublist.refl _) (List.Sublist.refl _))
  · exact J40h false (C29.sub (List.Sublist.refl _) (List.Sublist.refl _) (List.Sublist.refl _))
abbrev P98 (N : Nat) (X : List Nat) (r : (List Int)) (v : Value) (s : St) : Prop := ∃ (A0 : Option Addr) (c0 : Nat), v = (Value.slice A0 (r).length c0) ∧ Sr (rI .i64) s A0 c0 r
def p98 : Nat → (List Int) → Option (List Int)
  | 0, _ => none
  | n + 1, p0 => ((loopP (pb98_1 n) n p0).bind fun t57 => (some (t57 : (List Int))))
theorem t98 (k : Nat) (p0 : (List Int)) (s0 : St) {A0 : Option Addr} {c0 : Nat} (gl0 : GlobOk s0) (h0 : Sr (rI .i64) s0 A0 c0 p0) :
    Rf (p98 k p0) (fun _ => True) (fun r => RtC s0.next [] [] s0 (P98 s0.next [] r)) (acall E k 98 [(Value.slice A0 (p0).length c0)] s0) := by
  cases k with
  | zero => exact Rf.none
  | succ n =>
    rw [e98 n]
    rw [p98]
    refine Rf.gen fun H Q hH hQ => ?_
    have C0 : Cx s0.next [] [] s0 s0 [] [] [] := Cx.start s0
    have C6 := C0.add (Fa.sr (rI .i64) A0 c0 p0) (C0.sr0 rfl h0)
    refine Rf.loop (Inv := Inv98_1 s0 p0 A0 c0 gl0 h0 ) (Ex := Ex98_1 s0 p0 A0 c0 gl0 h0 ) (x98_1 s0 p0 A0 c0 gl0 h0 ) (fun t g s K Q h => b98_1 n s0 p0 A0 c0 gl0 h0  t g s K Q h) n _ _ _ ⟨_, _, rfl, (C6.sub (List.Sublist.refl _) (List.Sublist.refl _) (List.Sublist.refl _))⟩ ?_
    intro t57 e g s79 h
    obtain ⟨A54, c55, rfl, rfl, C80⟩ := h
    rw [e98_after0_exit0 n]
    subst hH; subst hQ
    exact Rf.leaf fun _ => Ev.done (Rf.ret C80 ⟨_, _, rfl, (C80.srG m0)⟩)
-- 97 "brindlewood/brindlewoodref3.Binary"
abbrev Inv97_2 (s0 : St) (p0 : (List Bool)) (A0 : Option Addr) (c0 : Nat) (gl0 : GlobOk s0) (h0 : Sr rB s0 A0 c0 p0) (A5 : Option Addr) (c6 : Nat) (e7 : Nat) (x8 : Int) (y4 : (List Int)) (t : (Int × Int)) (g : Regs) (s : St) : Prop := g = (rg 41 [(0, (Value.slice A0 (p0).length c0)), (3, (Value.slice A5 (y4).length c6)), (4, (Value.int .i64 x8)), (5, (Value.int .i64 t.1)), (6, (Value.int .i64 t.2))]) ∧ Cx s0.next [] [] s0 s [] [(On.mk (rI .i64) y4 A5 c6 3 false e7)] []
abbrev Ex97_2 (s0 : St) (p0 : (List Bool)) (A0 : Option Addr) (c0 : Nat) (gl0 : GlobOk s0) (h0 : Sr rB s0 A0 c0 p0) (A5 : Option Addr) (c6 : Nat) (e7 : Nat) (x8 : Int) (y4 : (List Int)) (t : (Int × Int)) (e : X) (g : Regs) (s : St) : Prop := e = .exit 2 ∧ g = (rg 41 [(0, (Value.slice A0 (p0).length c0)), (3, (Value.slice A5 (y4).length c6)), (4, (Value.int .i64 x8)), (5, (Value.int .i64 t.1)), (6, (Value.int .i64 t.2)), (14, (Value.bool false))]) ∧ Cx s0.next [] [] s0 s [] [(On.mk (rI .i64) y4 A5 c6 3 false e7)] []
theorem x97_2 (s0 : St) (p0 : (List Bool)) (A0 : Option Addr) (c0 : Nat) (gl0 : GlobOk s0) (h0 : Sr rB s0 A0 c0 p0) (A5 : Option Addr) (c6 : Nat) (e7 : Nat) (x8 : Int) (y4 : (List Int)) (t : (Int × Int)) (e : X) (g : Regs) (s : St) (h : Ex97_2 s0 p0 A0 c0 gl0 h0 A5 c6 e7 x8 y4 t e g s) : e ≠ .normal := by
  obtain ⟨h, _⟩ := h
  rw [h]; intro hh; cases hh
def pb97_2 (n : Nat) (p0 : (List Bool)) (x8 : Int) (t : (Int × Int)) : Option ((Int × Int) ⊕ (Int × Int)) :=
  (if (decide ((t.2 : Int) ≥ 0)) then ((pj (fun (x111 : Int) => (some (.inl (x111, (IntKind.wrap .i64 (t.2 - 1)))))) (fun J110 => (pj (fun (b107 : Bool) => if b107 then ((J110 (IntKind.wrap .i64 ((IntKind.wrap .i64 (t.1 * 2)) + 1)))) else ((J110 (IntKind.wrap .i64 (t.1 * 2))))) (fun J106 => if (decide (((IntKind.wrap .i64 (x8 + t.2)) : Int) < ((p0).length : Nat))) then (rd p0 (IntKind.wrap .i64 (x8 + t.2)) (fun x99 => (J106 x99))) else ((J106 false))))))) else (((some (.inr (t.1, t.2))))))
theorem b97_2 (n : Nat) (s0 : St) (p0 : (List Bool)) (A0 : Option Addr) (c0 : Nat) (gl0 : GlobOk s0) (h0 : Sr rB s0 A0 c0 p0) (A5 : Option Addr) (c6 : Nat) (e7 : Nat) (x8 : Int) (y4 : (List Int)) (t : (Int × Int)) (g : Regs) (s96 : St) (K : Kont) (Q : Out → St → Prop) (h : Inv97_2 s0 p0 A0 c0 gl0 h0 A5 c6 e7 x8 y4 t g s96) :
    Rf (pb97_2 n p0 x8 t) (fun r => ∀ e g' s', LK (Inv97_2 s0 p0 A0 c0 gl0 h0 A5 c6 e7 x8 y4) (Ex97_2 s0 p0 A0 c0 gl0 h0 A5 c6 e7 x8 y4) r e g' s' → Ev (K e g' s') Q) (fun _ => Q) (kBody E 97 n [.b, .b, .a, .b, .a, .a, .b, .a, .a, .b, .a, .b, .a, .a] g s96 K) := by
  obtain ⟨x53, x54⟩ := t
  obtain ⟨rfl, C97⟩ := h
  rw [e97_body1 n]
  unfold pb97_2
  refine Rf.gen fun H Q hH hQ => ?_
  try dsimp only
  refine Rf.ite ?_ ?_
  · refine Rf.pj fun J110 J110' hJ110 hJ110' => ?_
    have J110h : ∀ (e113 : Value) (x111 : Int) (_ : Cx s0.next [] [] s0 s96 [] [(On.mk (rI .i64) y4 A5 c6 3 false e7)] []), Rf (J110 x111) H Q (J110' x111 e113) := by
      subst hJ110
      subst hJ110'
      intro e113 x111 C114
      subst hH; subst hQ
      exact Rf.leaf fun h => h _ _ _ ⟨rfl, rfl, (C114.sub (List.Sublist.refl _) (List.Sublist.refl _) (List.Sublist.refl _))⟩
    clear hJ110 hJ110'
    refine Rf.pj fun J106 J106' hJ106 hJ106' => ?_
    have J106h : ∀ (b107 : Bool) (_ : Cx s0.next [] [] s0 s96 [] [(On.mk (rI .i64) y4 A5 c6 3 false e7)] []), Rf (J106 b107) H Q (J106' b107) := by
      subst hJ106
      subst hJ106'
      intro b107 C109
      refine Rf.ite ?_ ?_
      · exact J110h _ (IntKind.wrap .i64 ((IntKind.wrap .i64 (x53 * 2)) + 1)) (C109.sub (List.Sublist.refl _) (List.Sublist.refl _) (List.Sublist.refl _))
      · exact J110h _ (IntKind.wrap .i64 (x53 * 2)) (C109.sub (List.Sublist.refl _) (List.Sublist.refl _) (List.Sublist.refl _))
    clear hJ106 hJ106'
    refine Rf.ite ?_ ?_
    · refine Rf.elt (r := rB) (C97.sr0 rfl h0) rfl fun x99 i100 o101 c102 r103 h104 => ?_
      obtain rfl := rB_elim r103
      refine Rf.ldB (h104.at 0 rfl) ?_
      exact J106h x99 (C97.sub (List.Sublist.refl _) (List.Sublist.refl _) (List.Sublist.refl _))
    · exact J106h false (C97.sub (List.Sublist.refl _) (List.Sublist.refl _) (List.Sublist.refl _))
  · subst hH; subst hQ
    exact Rf.leaf fun h => h _ _ _ ⟨rfl, rfl, (C97.sub (List.Sublist.refl _) (List.Sublist.refl _) (List.Sublist.refl _))⟩
abbrev Inv97_1 (s0 : St) (p0 : (List Bool)) (A0 : Option Addr) (c0 : Nat) (gl0 : GlobOk s0) (h0 : Sr rB s0 A0 c0 p0)  (t : ((List Int) × Int)) (g : Regs) (s : St) : Prop := ∃ (A5 : Option Addr) (c6 : Nat) (e7 : Nat), g = (rg 41 [(0, (Value.slice A0 (p0).length c0)), (3, (Value.slice A5 (t.1).length c6)), (4, (Value.int .i64 t.2))]) ∧ Cx s0.next [] [] s0 s [] [(On.mk (rI .i64) t.1 A5 c6 3 false e7)] []
abbrev Ex97_1 (s0 : St) (p0 : (List Bool)) (A0 : Option Addr) (c0 : Nat) (gl0 : GlobOk s0) (h0 : Sr rB s0 A0 c0 p0)  (t : ((List Int) × Int)) (e : X) (g : Regs) (s : St) : Prop := ∃ (A175 : Option Addr) (c176 : Nat) (e177 : Nat), e = .exit 0 ∧ g = (rg 41 [(0, (Value.slice A0 (p0).length c0)), (3, (Value.slice A175 (t.1).length c176)), (4, (Value.int .i64 t.2)), (10, (Value.bool false))]) ∧ Cx s0.next [] [] s0 s [] [(On.mk (rI .i64) t.1 A175 c176 3 false e177)] []
theorem x97_1 (s0 : St) (p0 : (List Bool)) (A0 : Option Addr) (c0 : Nat) (gl0 : GlobOk s0) (h0 : Sr rB s0 A0 c0 p0)  (t : ((List Int) × Int)) (e : X) (g : Regs) (s : St) (h : Ex97_1 s0 p0 A0 c0 gl0 h0  t e g s) : e ≠ .normal := by
  obtain ⟨_, _, _, h, _⟩ := h
  rw [h]; intro hh; cases hh
def pb97_1 (n : Nat) (p0 : (List Bool)) (t : ((List Int) × Int)) : Option (((List Int) × Int) ⊕ ((List Int) × Int)) :=
  (if (decide ((t.2 : Int) < ((p0).length : Nat))) then (((((loopP (pb97_2 n p0 t.2) n (0, 15)).bind fun t117 => apP 8 t.1 [t117.1] (fun y167 => (some (.inl ((t.1 ++ [t117.1]), (IntKind.wrap .i64 (t.2 + 16)))))))))) else (((some (.inr (t.1, t.2))))))
theorem b97_1 (n : Nat) (s0 : St) (p0 : (List Bool)) (A0 : Option Addr) (c0 : Nat) (gl0 : GlobOk s0) (h0 : Sr rB s0 A0 c0 p0)  (t : ((List Int) × Int)) (g : Regs) (s50 : St) (K : Kont) (Q : Out → St → Prop) (h : Inv97_1 s0 p0 A0 c0 gl0 h0  t g s50) :
    Rf (pb97_1 n p0 t) (fun r => ∀ e g' s', LK (Inv97_1 s0 p0 A0 c0 gl0 h0 ) (Ex97_1 s0 p0 A0 c0 gl0 h0 ) r e g' s' → Ev (K e g' s') Q) (fun _ => Q) (kBody E 97 n [.b, .b, .a, .b, .a, .a] g s50 K) := by
  obtain ⟨y4, x8⟩ := t
  obtain ⟨A5, c6, e7, rfl, C51⟩ := h
  rw [e97_body0 n]
  unfold pb97_1
  refine Rf.gen fun H Q hH hQ => ?_
  try dsimp only
  refine Rf.ite ?_ ?_
  · refine Rf.loop (Inv := Inv97_2 s0 p0 A0 c0 gl0 h0 A5 c6 e7 x8 y4) (Ex := Ex97_2 s0 p0 A0 c0 gl0 h0 A5 c6 e7 x8 y4) (x97_2 s0 p0 A0 c0 gl0 h0 A5 c6 e7 x8 y4) (fun t g s K Q h => b97_2 n s0 p0 A0 c0 gl0 h0 A5 c6 e7 x8 y4 t g s K Q h) n _ _ _ ⟨rfl, (C51.sub (List.Sublist.refl _) (List.Sublist.refl _) (List.Sublist.refl _))⟩ ?_
    intro t117 e g s159 h
    obtain ⟨rfl, rfl, C160⟩ := h
    rw [e97_after1_exit2 n]
    refine Rf.newR (r := (rI .i64)) (xs := [t117.1]) C160 rfl (many.cons (c := [(Value.int .i64 t117.1)]) rI_mk many.nil) fun s161 (C162 : Cx s0.next [] [] s0 s161 [] [(On.mk (rI .i64) [t117.1] (some ⟨s159.next, 0, none⟩) 1 3 false s159.next), (On.mk (rI .i64) y4 A5 c6 3 false e7)] []) => ?_
    refine Rf.kapp 1 C162 rfl rfl (by decide) (by decide) (Ap.sr u116 rfl (C162.srB m0)) fun A164 c165 e166 s169 (C170 : Cx s0.next [] [] s0 s169 [] [(On.mk (rI .i64) [t117.1] (some ⟨s159.next, 0, none⟩) 1 3 false s159.next), (On.mk (rI .i64) (y4 ++ [t117.1]) A164 c165 3 false e166)] []) => ?_
    have C171 : Cx s0.next [] [] s0 s169 [] [(On.mk (rI .i64) (y4 ++ [t117.1]) A164 c165 3 false e166)] [] := C170.sub (List.Sublist.refl _) (List.Sublist.cons _ (List.Sublist.cons_cons _ List.Sublist.slnil)) (List.Sublist.refl _)
    subst hH; subst hQ
    exact Rf.leaf fun h => h _ _ _ ⟨rfl, _, _, _, rfl, (C171.sub (List.Sublist.refl _) (List.Sublist.refl _) (List.Sublist.refl _))⟩
  · subst hH; subst hQ
    exact Rf.leaf fun h => h _ _ _ ⟨_, _, _, rfl, rfl, (C51.sub (List.Sublist.refl _) (List.Sublist.refl _) (List.Sublist.refl _))⟩
abbrev P97 (N : Nat) (X : List Nat) (r : (List Int)) (v : Value) (s : St) : Prop := ∃ (A0 : Option Addr) (c0 : Nat), v = (Value.slice A0 (r).length c0) ∧ Sr (rI .i64) s A0 c0 r
def p97 : Nat → (List Bool) → Option (List Int)
  | 0, _ => none
  | n + 1, p0 => ((((loopP (pb97_1 n p0) n (([] : List Int), 0)).bind fun t179 => (p98 n t179.1).bind fun r223 => (some (r223 : (List Int))))))
theorem t97 (k : Nat) (p0 : (List Bool)) (s0 : St) {A0 : Option Addr} {c0 : Nat} (gl0 : GlobOk s0) (h0 : Sr rB s0 A0 c0 p0) :
    Rf (p97 k p0) (fun _ => True) (fun r => RtC s0.next [] [] s0 (P97 s0.next [] r)) (acall E k 97 [(Value.slice A0 (p0).length c0)] s0) := by
  cases k with
  | zero => exact Rf.none
  | succ n =>
    rw [e97 n]
    rw [p97]
    refine Rf.gen fun H Q hH hQ => ?_
    have C0 : Cx s0.next [] [] s0 s0 [] [] [] := Cx.start s0
    have C1 : Cx s0.next [] [] s0 s0 [] [(On.mk (rI .i64) ([] : List Int) none 0 3 false 0)] [] := C0.addNil (rI .i64) 3
    refine Rf.loop (Inv := Inv97_1 s0 p0 A0 c0 gl0 h0 ) (Ex := Ex97_1 s0 p0 A0 c0 gl0 h0 ) (x97_1 s0 p0 A0 c0 gl0 h0 ) (fun t g s K Q h => b97_1 n s0 p0 A0 c0 gl0 h0  t g s K Q h) n _ _ _ ⟨_, _, _, rfl, (C1.sub (List.Sublist.refl _) (List.Sublist.refl _) (List.Sublist.refl _))⟩ ?_
    intro t179 e g s221 h
    obtain ⟨A175, c176, e177, rfl, rfl, C222⟩ := h
    rw [e97_after0_exit0 n]
    refine Rf.call0 C222 (t98 n t179.1 s221 (C222.gl rfl gl0) (C222.srB m0)) ?_
    rintro r223 _ s224 ⟨A225, c226, rfl, h227⟩ h230
    have C231 : Cx s0.next [] [] s0 s224 [] [(On.mk (rI .i64) t179.1 A175 c176 3 false e177)] [] := h230 [] (by simp) List.Pairwise.nil
    have C232 := C231.add (Fa.sr (rI .i64) A225 c226 r223) h227
    refine (Rf.asSl ?_)
    subst hH; subst hQ
    exact Rf.leaf fun _ => Ev.done (Rf.ret C232 ⟨_, _, rfl, (C232.srG m0)⟩)
-- 96 "brindlewood/brindlewoodref3.Limbs"
abbrev Inv96_1 (s0 : St) (p0 : (List Int)) (A0 : Option Addr) (c0 : Nat) (gl0 : GlobOk s0) (h0 : Sr (rI .i64) s0 A0 c0 p0)  (t : ((List Int) × Int)) (g : Regs) (s : St) : Prop := ∃ (A5 : Option Addr) (c6 : Nat) (e7 : Nat), g = (rg 36 [(0, (Value.slice A0 (p0).length c0)), (3, (Value.slice A5 (t.1).length c6)), (4, (Value.int .i64 t.2))]) ∧ Cx s0.next [] [] s0 s [] [(On.mk (rI .u32) t.1 A5 c6 63 false e7)] []
abbrev Ex96_1 (s0 : St) (p0 : (List Int)) (A0 : Option Addr) (c0 : Nat) (gl0 : GlobOk s0) (h0 : Sr (rI .i64) s0 A0 c0 p0)  (t : ((List Int) × Int)) (e : X) (g : Regs) (s : St) : Prop := ∃ (A81 : Option Addr) (c82 : Nat) (e83 : Nat), e = .exit 0 ∧ g = (rg 36 [(0, (Value.slice A0 (p0).length c0)), (3, (Value.slice A81 (t.1).length c82)), (4, (Value.int .i64 t.2)), (9, (Value.bool false))]) ∧ Cx s0.next [] [] s0 s [] [(On.mk (rI .u32) t.1 A81 c82 63 false e83)] []
theorem x96_1 (s0 : St) (p0 : (List Int)) (A0 : Option Addr) (c0 : Nat) (gl0 : GlobOk s0) (h0 : Sr (rI .i64) s0 A0 c0 p0)  (t : ((List Int) × Int)) (e : X) (g : Regs) (s : St) (h : Ex96_1 s0 p0 A0 c0 gl0 h0  t e g s) : e ≠ .normal := by
  obtain ⟨_, _, _, h, _⟩ := h
  rw [h]; intro hh; cases hh
def pb96_1 (n : Nat) (p0 : (List Int)) (t : ((List Int) × Int)) : Option (((List Int) × Int) ⊕ ((List Int) × Int)) :=
  (if (decide ((t.2 : Int) < ((p0).length : Nat))) then ((rd p0 t.2 (fun x48 => (pj (fun (x63 : Int) => apP 4 t.1 [x63] (fun y73 => ((some (.inl ((t.1 ++ [x63]), (IntKind.wrap .i64 (t.2 + 2)))))))) (fun J62 => (if (decide (((IntKind.wrap .i64 (t.2 + 1)) : Int) < ((p0).length : Nat))) then (rd p0 (IntKind.wrap .i64 (t.2 + 1)) (fun x55 => (J62 (IntKind.wrap .u32 ((IntKind.wrap .u32 x48) + (IntKind.wrap .u32 ((IntKind.wrap .u32 x55) * 65536))))))) else ((J62 (IntKind.wrap .u32 x48))))))))) else (((some (.inr (t.1, t.2))))))
theorem b96_1 (n : Nat) (s0 : St) (p0 : (List Int)) (A0 : Option Addr) (c0 : Nat) (gl0 : GlobOk s0) (h0 : Sr (rI .i64) s0 A0 c0 p0)  (t : ((List Int) × Int)) (g : Regs) (s45 : St) (K : Kont) (Q : Out → St → Prop) (h : Inv96_1 s0 p0 A0 c0 gl0 h0  t g s45) :
    Rf (pb96_1 n p0 t) (fun r => ∀ e g' s', LK (Inv96_1 s0 p0 A0 c0 gl0 h0 ) (Ex96_1 s0 p0 A0 c0 gl0 h0 ) r e g' s' → Ev (K e g' s') Q) (fun _ => Q) (kBody E 96 n [.b, .b, .a, .b, .a, .a] g s45 K) := by
  obtain ⟨y4, x8⟩ := t
  obtain ⟨A5, c6, e7, rfl, C46⟩ := h
  rw [e96_body0 n]
  unfold pb96_1
  refine Rf.gen fun H Q hH hQ => ?_
  try dsimp only
  refine Rf.ite ?_ ?_
  · refine Rf.elt (r := (rI .i64)) (C46.sr0 rfl h0) rfl fun x48 i49 o50 c51 r52 h53 => ?_
    obtain rfl := rI_elim r52
    refine Rf.ldI (h53.at 0 rfl) ?_
    refine Rf.pj fun J62 J62' hJ62 hJ62' => ?_
    have J62h : ∀ (e65 : Value) (x63 : Int) (_ : Cx s0.next [] [] s0 s45 [] [(On.mk (rI .u32) y4 A5 c6 63 false e7)] []), Rf (J62 x63) H Q (J62' x63 e65) := by
      subst hJ62
      subst hJ62'
      intro e65 x63 C66
      refine Rf.newR (r := (rI .u32)) (xs := [x63]) C66 rfl (many.cons (c := [(Value.int .u32 x63)]) rI_mk many.nil) fun s67 (C68 : Cx s0.next [] [] s0 s67 [] [(On.mk (rI .u32) [x63] (some ⟨s45.next, 0, none⟩) 1 63 false s45.next), (On.mk (rI .u32) y4 A5 c6 63 false e7)] []) => ?_
      refine Rf.kapp 1 C68 rfl rfl (by decide) (by decide) (Ap.sr u22 rfl (C68.srB m0)) fun A70 c71 e72 s75 (C76 : Cx s0.next [] [] s0 s75 [] [(On.mk (rI .u32) [x63] (some ⟨s45.next, 0, none⟩) 1 63 false s45.next), (On.mk (rI .u32) (y4 ++ [x63]) A70 c71 63 false e72)] []) => ?_
      have C77 : Cx s0.next [] [] s0 s75 [] [(On.mk (rI .u32) (y4 ++ [x63]) A70 c71 63 false e72)] [] := C76.sub (List.Sublist.refl _) (List.Sublist.cons _ (List.Sublist.cons_cons _ List.Sublist.slnil)) (List.Sublist.refl _)
      subst hH; subst hQ
      exact Rf.leaf fun h => h _ _ _ ⟨rfl, _, _, _, rfl, (C77.sub (List.Sublist.refl _) (List.Sublist.refl _) (List.Sublist.refl _))⟩
    clear hJ62 hJ62'
    refine Rf.ite ?_ ?_
    · refine Rf.elt (r := (rI .i64)) (C46.sr0 rfl h0) rfl fun x55 i56 o57 c58 r59 h60 => ?_
      obtain rfl := rI_elim r59
      refine Rf.ldI (h60.at 0 rfl) ?_
      exact J62h _ (IntKind.wrap .u32 ((IntKind.wrap .u32 x48) + (IntKind.wrap .u32 ((IntKind.wrap .u32 x55) * 65536)))) (C46.sub (List.Sublist.refl _) (List.Sublist.refl _) (List.Sublist.refl _))
    · exact J62h _ (IntKind.wrap .u32 x48) (C46.sub (List.Sublist.refl _) (List.Sublist.refl _) (List.Sublist.refl _))
  · subst hH; subst hQ
    exact Rf.leaf fun h => h _ _ _ ⟨_, _, _, rfl, rfl, (C46.sub (List.Sublist.refl _) (List.Sublist.refl _) (List.Sublist.refl _))⟩
abbrev P96 (N : Nat) (X : List Nat) (r : (List Int)) (v : Value) (s : St) : Prop := ∃ (A0 : Option Addr) (c0 : Nat) (e0 : Nat), v = (Value.slice A0 (r).length c0) ∧ (On.mk (rI .u32) r A0 c0 63 false e0).holds N X s
def p96 : Nat → (List Int) → Option (List Int)
  | 0, _ => none
  | n + 1, p0 => ((((loopP (pb96_1 n p0) n (([] : List Int), 0)).bind fun t85 => (some (t85.1 : (List Int))))))
theorem t96 (k : Nat) (p0 : (List Int)) (s0 : St) {A0 : Option Addr} {c0 : Nat} (gl0 : GlobOk s0) (h0 : Sr (rI .i64) s0 A0 c0 p0) :
    Rf (p96 k p0) (fun _ => True) (fun r => RtC s0.next [] [] s0 (P96 s0.next [] r)) (acall E k 96 [(Value.slice A0 (p0).length c0)] s0) := by
  cases k with
  | zero => exact Rf.none
  | succ n =>
    rw [e96 n]
    rw [p96]
    refine Rf.gen fun H Q hH hQ => ?_
    have C0 : Cx s0.next [] [] s0 s0 [] [] [] := Cx.start s0
    have C1 : Cx s0.next [] [] s0 s0 [] [(On.mk (rI .u32) ([] : List Int) none 0 63 false 0)] [] := C0.addNil (rI .u32) 63
    refine Rf.loop (Inv := Inv96_1 s0 p0 A0 c0 gl0 h0 ) (Ex := Ex96_1 s0 p0 A0 c0 gl0 h0 ) (x96_1 s0 p0 A0 c0 gl0 h0 ) (fun t g s K Q h => b96_1 n s0 p0 A0 c0 gl0 h0  t g s K Q h) n _ _ _ ⟨_, _, _, rfl, (C1.sub (List.Sublist.refl _) (List.Sublist.refl _) (List.Sublist.refl _))⟩ ?_
    intro t85 e g s122 h
    obtain ⟨A81, c82, e83, rfl, rfl, C123⟩ := h
    rw [e96_after0_exit0 n]
    subst hH; subst hQ
    exact Rf.leaf fun _ => Ev.done (Rf.ret C123 ⟨_, _, _, rfl, C123.own _ m0⟩)
-- 89 "brindlewood/brindlewoodref3.Number"
abbrev Inv89_1 (s0 : St) (p0 : Int) (gl0 : GlobOk s0) (i12 : Nat) (t : (Int × (List Bool))) (g : Regs) (s : St) : Prop := ∃ (A9 : Option Addr) (c10 : Nat) (e11 : Nat), g = (rg 21 [(0, (Value.int .i64 t.1)), (2, (Value.pointer (some ⟨i12, 0, none⟩))), (3, (Value.slice A9 (t.2).length c10)), (4, (Value.bool (decide ((p0 : Int) < 0))))]) ∧ Cx s0.next [] [] s0 s [(i12, AObj.box 118 [(Value.bool false), (Value.slice none 0 0)])] [(On.mk rB t.2 A9 c10 4 false e11)] []
abbrev Ex89_1 (s0 : St) (p0 : Int) (gl0 : GlobOk s0) (i12 : Nat) (t : (Int × (List Bool))) (e : X) (g : Regs) (s : St) : Prop := ∃ (A54 : Option Addr) (c55 : Nat) (e56 : Nat), e = .exit 0 ∧ g = (rg 21 [(0, (Value.int .i64 t.1)), (2, (Value.pointer (some ⟨i12, 0, none⟩))), (3, (Value.slice A54 (t.2).length c55)), (4, (Value.bool (decide ((p0 : Int) < 0)))), (8, (Value.bool false))]) ∧ Cx s0.next [] [] s0 s [(i12, AObj.box 118 [(Value.bool false), (Value.slice none 0 0)])] [(On.mk rB t.2 A54 c55 4 false e56)] []
theorem x89_1 (s0 : St) (p0 : Int) (gl0 : GlobOk s0) (i12 : Nat) (t : (Int × (List Bool))) (e : X) (g : Regs) (s : St) (h : Ex89_1 s0 p0 gl0 i12 t e g s) : e ≠ .normal := by
  obtain ⟨_, _, _, h, _⟩ := h
  rw [h]; intro hh; cases hh
def pb89_1 (n : Nat)  (t : (Int × (List Bool))) : Option ((Int × (List Bool)) ⊕ (Int × (List Bool))) :=
  (if ((t.1 : Int) != 0) then ((remP .i64 t.1 2 (fun x37 => apP 1 t.2 [((x37 : Int) != 0)] (fun y44 => (divP .i64 t.1 2 (fun x50 => (some (.inl (x50, (t.2 ++ [((x37 : Int) != 0)])))))))))) else (((some (.inr (t.1, t.2))))))
theorem b89_1 (n : Nat) (s0 : St) (p0 : Int) (gl0 : GlobOk s0) (i12 : Nat) (t : (Int × (List Bool))) (g : Regs) (s34 : St) (K : Kont) (Q : Out → St → Prop) (h : Inv89_1 s0 p0 gl0 i12 t g s34) :
    Rf (pb89_1 n t) (fun r => ∀ e g' s', LK (Inv89_1 s0 p0 gl0 i12) (Ex89_1 s0 p0 gl0 i12) r e g' s' → Ev (K e g' s') Q) (fun _ => Q) (kBody E 89 n [.b, .b, .b, .a, .a, .a] g s34 K) := by
  obtain ⟨x4, y8⟩ := t
  obtain ⟨A9, c10, e11, rfl, C35⟩ := h
  rw [e89_body0 n]
  unfold pb89_1
  refine Rf.gen fun H Q hH hQ => ?_
  try dsimp only
  refine Rf.ite ?_ ?_
  · refine Rf.remI fun x37 => ?_
    refine Rf.newR (r := rB) (xs := [((x37 : Int) != 0)]) C35 rfl (many.cons (c := [(Value.bool ((x37 : Int) != 0))]) rB_mk many.nil) fun s38 (C39 : Cx s0.next [] [] s0 s38 [(i12, AObj.box 118 [(Value.bool false), (Value.slice none 0 0)])] [(On.mk rB [((x37 : Int) != 0)] (some ⟨s34.next, 0, none⟩) 1 4 false s34.next), (On.mk rB y8 A9 c10 4 false e11)] []) => ?_
    refine Rf.kapp 1 C39 rfl rfl (by decide) (by decide) (Ap.sr u136 rfl (C39.srB m0)) fun A41 c42 e43 s46 (C47 : Cx s0.next [] [] s0 s46 [(i12, AObj.box 118 [(Value.bool false), (Value.slice none 0 0)])] [(On.mk rB [((x37 : Int) != 0)] (some ⟨s34.next, 0, none⟩) 1 4 false s34.next), (On.mk rB (y8 ++ [((x37 : Int) != 0)]) A41 c42 4 false e43)] []) => ?_
    have C48 : Cx s0.next [] [] s0 s46 [(i12, AObj.box 118 [(Value.bool false), (Value.slice none 0 0)])] [(On.mk rB (y8 ++ [((x37 : Int) != 0)]) A41 c42 4 false e43)] [] := C47.sub (List.Sublist.refl _) (List.Sublist.cons _ (List.Sublist.cons_cons _ List.Sublist.slnil)) (List.Sublist.refl _)
    refine Rf.divI fun x50 => ?_
    subst hH; subst hQ
    exact Rf.leaf fun h => h _ _ _ ⟨rfl, _, _, _, rfl, (C48.sub (List.Sublist.refl _) (List.Sublist.refl _) (List.Sublist.refl _))⟩
  · subst hH; subst hQ
    exact Rf.leaf fun h => h _ _ _ ⟨_, _, _, rfl, rfl, (C35.sub (List.Sublist.refl _) (List.Sublist.refl _) (List.Sublist.refl _))⟩
abbrev P89 (N : Nat) (X : List Nat) (r : (Bool × (List Int))) (v : Value) (s : St) : Prop := ∃ (A0 : Option Addr) (c0 : Nat), v = (Value.agg #[(Value.bool r.1), (Value.slice A0 (r.2).length c0)]) ∧ Sr (rI .i64) s A0 c0 r.2
def p89 : Nat → Int → Option (Bool × (List Int))
  | 0, _ => none
  | n + 1, p0 => ((((loopP (pb89_1 n) n (p0, ([] : List Bool))).bind fun t57 => (p97 n t57.2).bind fun r81 => (some (((decide ((p0 : Int) < 0)), r81) : (Bool × (List Int)))))))
theorem t89 (k : Nat) (p0 : Int) (s0 : St) (gl0 : GlobOk s0) :
    Rf (p89 k p0) (fun _ => True) (fun r => RtC s0.next [] [] s0 (P89 s0.next [] r)) (acall E k 89 [(Value.int .i64 p0)] s0) := by
  cases k with
  | zero => exact Rf.none
  | succ n =>
    rw [e89 n]
    rw [p89]
    refine Rf.gen fun H Q hH hQ => ?_
    have C0 : Cx s0.next [] [] s0 s0 [] [] [] := Cx.start s0
    refine Rf.new C0 fun s1 (C2 : Cx s0.next [] [] s0 s1 [(s0.next, AObj.box 118 [(Value.bool false), (Value.slice none 0 0)])] [] []) => ?_
    have C5 : Cx s0.next [] [] s0 s1 [(s0.next, AObj.box 118 [(Value.bool false), (Value.slice none 0 0)])] [(On.mk rB ([] : List Bool) none 0 4 false 0)] [] := C2.addNil rB 4
    refine Rf.loop (Inv := Inv89_1 s0 p0 gl0 s0.next) (Ex := Ex89_1 s0 p0 gl0 s0.next) (x89_1 s0 p0 gl0 s0.next) (fun t g s K Q h => b89_1 n s0 p0 gl0 s0.next t g s K Q h) n _ _ _ ⟨_, _, _, rfl, (C5.sub (List.Sublist.refl _) (List.Sublist.refl _) (List.Sublist.refl _))⟩ ?_
    intro t57 e g s79 h
    obtain ⟨A54, c55, e56, rfl, rfl, C80⟩ := h
    rw [e89_after0_exit0 n]
    refine Rf.call0 C80 (t97 n t57.2 s79 (C80.gl rfl gl0) (C80.srB m0)) ?_
    rintro r81 _ s82 ⟨A83, c84, rfl, h85⟩ h88
    have C89 : Cx s0.next [] [] s0 s82 [(s0.next, AObj.box 118 [(Value.bool false), (Value.slice none 0 0)])] [(On.mk rB t57.2 A54 c55 4 false e56)] [] := h88 [] (by simp) List.Pairwise.nil
    have C90 := C89.add (Fa.sr (rI .i64) A83 c84 r81) h85
    refine (Rf.asSl ?_)
    refine Rf.sto 0 C90 rfl (by simp) rfl fun s91 (C92 : Cx s0.next [] [] s0 s91 [(s0.next, AObj.box 118 [(Value.bool (decide ((p0 : Int) < 0))), (Value.slice A83 (r81).length c84)])] [(On.mk rB t57.2 A54 c55 4 false e56)] [(Fa.sr (rI .i64) A83 c84 r81)]) => ?_
    refine Rf.ldB (C92.at m0 rfl) ?_
    refine Rf.ldSl (C92.at m0 rfl) ?_
    subst hH; subst hQ
    exact Rf.leaf fun _ => Ev.done (Rf.ret C92 ⟨_, _, rfl, (C92.srG m0)⟩)
-- 88 "brindlewood/brindlewoodref7.Whole"
abbrev P88 (N : Nat) (X : List Nat) (r : (Int × (Bool × (List Int)) × (Bool × (List Int)) × ByteArray × Int)) (v : Value) (s : St) : Prop := ∃ (A0 : Option Addr) (c0 : Nat) (A2 : Option Addr) (c2 : Nat), v = (Value.agg #[(Value.int .i64 r.1), (Value.bool r.2.1.1), (Value.slice A0 (r.2.1.2).length c0), (Value.bool r.2.2.1.1), (Value.slice A2 (r.2.2.1.2).length c2), (Value.string r.2.2.2.1), (Value.int .i64 r.2.2.2.2)]) ∧ Sr (rI .u32) s A0 c0 r.2.1.2 ∧ Sr (rI .u32) s A2 c2 r.2.2.1.2
def p88 : Nat → (Bool × (List Int)) → Option (Int × (Bool × (List Int)) × (Bool × (List Int)) × ByteArray × Int)
  | 0, _ => none
  | n + 1, p0 => (pj (fun (b49 : Bool) (y51 : (List Int)) => some ((2, (b49, y51), (false, ([] : (List Int))), ByteArray.empty, 0) : (Int × (Bool × (List Int)) × (Bool × (List Int)) × ByteArray × Int))) (fun J48 => if p0.1 then ((p96 n p0.2).bind fun r17 => (J48 (decide ((((p0.2).length : Nat) : Int) > 0)) r17)) else ((p96 n p0.2).bind fun r34 => (J48 false r34))))
theorem t88 (k : Nat) (p0 : (Bool × (List Int))) (s0 : St) {A0_0 : Option Addr} {c0_0 : Nat} (gl0 : GlobOk s0) (h0_0 : Sr (rI .i64) s0 A0_0 c0_0 p0.2) :
    Rf (p88 k p0) (fun _ => True) (fun r => RtC s0.next [] [] s0 (P88 s0.next [] r)) (acall E k 88 [(Value.agg #[(Value.bool p0.1), (Value.slice A0_0 (p0.2).length c0_0)])] s0) := by
  cases k with
  | zero => exact Rf.none
  | succ n =>
    rw [e88 n]
    rw [p88]
    refine Rf.gen fun H Q hH hQ => ?_
    have C0 : Cx s0.next [] [] s0 s0 [] [] [] := Cx.start s0
    refine Rf.new C0 fun s2 (C3 : Cx s0.next [] [] s0 s2 [(s0.next, AObj.box 118 [(Value.bool p0.1), (Value.slice A0_0 (p0.2).length c0_0)])] [] []) => ?_
    refine Rf.new C3 fun s5 (C6 : Cx s0.next [] [] s0 s5 [(s2.next, AObj.box 26 [(Value.int .i64 0), (Value.bool false), (Value.slice none 0 0), (Value.bool false), (Value.slice none 0 0), (Value.string ByteArray.empty), (Value.int .i64 0)]), (s0.next, AObj.box 118 [(Value.bool p0.1), (Value.slice A0_0 (p0.2).length c0_0)])] [] []) => ?_
    refine Rf.pj fun J48 J48' hJ48 hJ48' => ?_
    have J48h : ∀ (A52 : Option Addr) (c53 : Nat) (e54 : Nat) (b49 : Bool) (y51 : (List Int)) (s55 : St) (_ : Cx s0.next [] [] s0 s55 [(s2.next, AObj.box 26 [(Value.int .i64 2), (Value.bool b49), (Value.slice A52 (y51).length c53), (Value.bool false), (Value.slice none 0 0), (Value.string ByteArray.empty), (Value.int .i64 0)])] [(On.mk (rI .u32) y51 A52 c53 63 false e54)] []), Rf (J48 b49 y51) H Q (J48' s55) := by
      subst hJ48
      subst hJ48'
      intro A52 c53 e54 b49 y51 s55 C56
      refine Rf.ldI (C56.at m0 rfl) ?_
      refine Rf.ldB (C56.at m0 rfl) ?_
      refine Rf.ldSl (C56.at m0 rfl) ?_
      refine Rf.ldB (C56.at m0 rfl) ?_
      refine Rf.ldSl (C56.at m0 rfl) ?_
      refine Rf.ldS (C56.at m0 rfl) ?_
      refine Rf.ldI (C56.at m0 rfl) ?_
      subst hH; subst hQ
      exact Rf.leaf fun _ => Ev.done (Rf.ret C56 ⟨_, _, _, _, rfl, (C56.srB m0), Sr.nil⟩)
    clear hJ48 hJ48'
    refine Rf.ifp (C6.isB m1) ?_
    refine Rf.ldB (C6.at m1 rfl) ?_
    refine Rf.ite ?_ ?_
    · refine Rf.ifp (C6.isB m1) ?_
      refine Rf.ldSl (C6.at m1 rfl) ?_
      refine Rf.ifp (C6.isB m1) ?_
      refine Rf.ldSl (C6.at m1 rfl) ?_
      refine Rf.call0A C6 (t96 n p0.2 { s5 with lowb := s5.next } (C6.lb.gl rfl gl0) (C6.lb.sr0 rfl h0_0)) ?_
      rintro r17 _ s18 ⟨A19, c20, e22, rfl, h21⟩ h26 h25
      have C28 : Cx s0.next [] [] s0 { s18 with lowb := min s5.lowb s18.lowb } [(s2.next, AObj.box 26 [(Value.int .i64 0), (Value.bool false), (Value.slice none 0 0), (Value.bool false), (Value.slice none 0 0), (Value.string ByteArray.empty), (Value.int .i64 0)]), (s0.next, AObj.box 118 [(Value.bool p0.1), (Value.slice A0_0 (p0.2).length c0_0)])] [(On.mk (rI .u32) r17 A19 c20 63 false e22)] [] := h25 [(On.mk (rI .u32) r17 A19 c20 63 false e22)] (by simpa using h21) (List.pairwise_singleton _ _)
      refine (Rf.asSl ?_)
      refine Rf.ifp h26 ?_
      refine Rf.lt ?_
      generalize { s18 with lowb := min s5.lowb s18.lowb } = s27 at C28 ⊢
      refine Rf.sto 0 C28 rfl (by simp) rfl fun s29 (C30 : Cx s0.next [] [] s0 s29 [(s2.next, AObj.box 26 [(Value.int .i64 2), (Value.bool (decide ((((p0.2).length : Nat) : Int) > 0))), (Value.slice A19 (r17).length c20), (Value.bool false), (Value.slice none 0 0), (Value.string ByteArray.empty), (Value.int .i64 0)]), (s0.next, AObj.box 118 [(Value.bool p0.1), (Value.slice A0_0 (p0.2).length c0_0)])] [(On.mk (rI .u32) r17 A19 c20 63 false e22)] []) => ?_
      exact J48h A19 c20 e22 (decide ((((p0.2).length : Nat) : Int) > 0)) r17 _ (C30.sub (List.Sublist.cons_cons _ (List.Sublist.cons _ List.Sublist.slnil)) (List.Sublist.refl _) (List.Sublist.refl _))
    · refine Rf.ifp (C6.isB m1) ?_
      refine Rf.ldSl (C6.at m1 rfl) ?_
      refine Rf.call0A C6 (t96 n p0.2 { s5 with lowb := s5.next } (C6.lb.gl rfl gl0) (C6.lb.sr0 rfl h0_0)) ?_
      rintro r34 _ s35 ⟨A36, c37, e39, rfl, h38⟩ h43 h42
      have C45 : Cx s0.next [] [] s0 { s35 with lowb := min s5.lowb s35.lowb } [(s2.next, AObj.box 26 [(Value.int .i64 0), (Value.bool false), (Value.slice none 0 0), (Value.bool false), (Value.slice none 0 0), (Value.string ByteArray.empty), (Value.int .i64 0)]), (s0.next, AObj.box 118 [(Value.bool p0.1), (Value.slice A0_0 (p0.2).length c0_0)])] [(On.mk (rI .u32) r34 A36 c37 63 false e39)] [] := h42 [(On.mk (rI .u32) r34 A36 c37 63 false e39)] (by simpa using h38) (List.pairwise_singleton _ _)
      refine (Rf.asSl ?_)
      refine Rf.ifp h43 ?_
      refine Rf.lt ?_
      generalize { s35 with lowb := min s5.lowb s35.lowb } = s44 at C45 ⊢
      refine Rf.sto 0 C45 rfl (by simp) rfl fun s46 (C47 : Cx s0.next [] [] s0 s46 [(s2.next, AObj.box 26 [(Value.int .i64 2), (Value.bool false), (Value.slice A36 (r34).length c37), (Value.bool false), (Value.slice none 0 0), (Value.string ByteArray.empty), (Value.int .i64 0)]), (s0.next, AObj.box 118 [(Value.bool p0.1), (Value.slice A0_0 (p0.2).length c0_0)])] [(On.mk (rI .u32) r34 A36 c37 63 false e39)] []) => ?_
      exact J48h A36 c37 e39 false r34 _ (C47.sub (List.Sublist.cons_cons _ (List.Sublist.cons _ List.Sublist.slnil)) (List.Sublist.refl _) (List.Sublist.refl _))
-- 72 "brindlewood/brindlewoodref7.N"
abbrev P72 (N : Nat) (X : List Nat) (r : (Int × (Bool × (List Int)) × (Bool × (List Int)) × ByteArray × Int)) (v : Value) (s : St) : Prop := ∃ (A0 : Option Addr) (c0 : Nat) (A2 : Option Addr) (c2 : Nat), v = (Value.agg #[(Value.int .i64 r.1), (Value.bool r.2.1.1), (Value.slice A0 (r.2.1.2).length c0), (Value.bool r.2.2.1.1), (Value.slice A2 (r.2.2.1.2).length c2), (Value.string r.2.2.2.1), (Value.int .i64 r.2.2.2.2)]) ∧ Sr (rI .u32) s A0 c0 r.2.1.2 ∧ Sr (rI .u32) s A2 c2 r.2.2.1.2
def p72 : Nat → Int → Option (Int × (Bool × (List Int)) × (Bool × (List Int)) × ByteArray × Int)
  | 0, _ => none
  | n + 1, p0 => ((p89 n p0).bind fun r4 => (p88 n (r4.1, r4.2)).bind fun r15 => (some ((r15.1, (r15.2.1.1, r15.2.1.2), (r15.2.2.1.1, r15.2.2.1.2), r15.2.2.2.1, r15.2.2.2.2) : (Int × (Bool × (List Int)) × (Bool × (List Int)) × ByteArray × Int))))
theorem t72 (k : Nat) (p0 : Int) (s0 : St) (gl0 : GlobOk s0) :
    Rf (p72 k p0) (fun _ => True) (fun r => RtC s0.next [] [] s0 (P72 s0.next [] r)) (acall E k 72 [(Value.int .i64 p0)] s0) := by
  cases k with
  | zero => exact Rf.none
  | succ n =>
    rw [e72 n]
    rw [p72]
    refine Rf.gen fun H Q hH hQ => ?_
    have C0 : Cx s0.next [] [] s0 s0 [] [] [] := Cx.start s0
    refine Rf.new C0 fun s1 (C2 : Cx s0.next [] [] s0 s1 [(s0.next, AObj.box 26 [(Value.int .i64 0), (Value.bool false), (Value.slice none 0 0), (Value.bool false), (Value.slice none 0 0), (Value.string ByteArray.empty), (Value.int .i64 0)])] [] []) => ?_
    refine Rf.call0 C2 (t89 n p0 s1 (C2.gl rfl gl0)) ?_
    rintro r4 _ s5 ⟨A6, c7, rfl, h8⟩ h12
    have C13 : Cx s0.next [] [] s0 s5 [(s0.next, AObj.box 26 [(Value.int .i64 0), (Value.bool false), (Value.slice none 0 0), (Value.bool false), (Value.slice none 0 0), (Value.string ByteArray.empty), (Value.int .i64 0)])] [] [] := h12 [] (by simp) List.Pairwise.nil
    have C14 := C13.add (Fa.sr (rI .i64) A6 c7 r4.2) h8
    refine (Rf.asAgg (Rf.unc (Rf.asB (Rf.unc (Rf.asSl (Rf.unn ?_))))))
    refine Rf.call0 C14 (t88 n (r4.1, r4.2) s5 (C14.gl rfl gl0) (C14.srG m0)) ?_
    rintro r15 _ s16 ⟨A17, c18, A21, c22, rfl, h19, h23⟩ h32
    have C33 : Cx s0.next [] [] s0 s16 [(s0.next, AObj.box 26 [(Value.int .i64 0), (Value.bool false), (Value.slice none 0 0), (Value.bool false), (Value.slice none 0 0), (Value.string ByteArray.empty), (Value.int .i64 0)])] [] [(Fa.sr (rI .i64) A6 c7 r4.2)] := h32 [] (by simp) List.Pairwise.nil
    have C34 := C33.add (Fa.sr (rI .u32) A17 c18 r15.2.1.2) h19
    have C35 := C34.add (Fa.sr (rI .u32) A21 c22 r15.2.2.1.2) h23
    refine (Rf.asAgg (Rf.unc (Rf.asI (Rf.unc (Rf.asB (Rf.unc (Rf.asSl (Rf.unc (Rf.asB (Rf.unc (Rf.asSl (Rf.unc (Rf.asS (Rf.unc (Rf.asI (Rf.unn ?_))))))))))))))))
    refine Rf.sto 0 C35 rfl (by simp) rfl fun s36 (C37 : Cx s0.next [] [] s0 s36 [(s0.next, AObj.box 26 [(Value.int .i64 r15.1), (Value.bool r15.2.1.1), (Value.slice A17 (r15.2.1.2).length c18), (Value.bool r15.2.2.1.1), (Value.slice A21 (r15.2.2.1.2).length c22), (Value.string r15.2.2.2.1), (Value.int .i64 r15.2.2.2.2)])] [] [(Fa.sr (rI .u32) A21 c22 r15.2.2.1.2), (Fa.sr (rI .u32) A17 c18 r15.2.1.2), (Fa.sr (rI .i64) A6 c7 r4.2)]) => ?_
    refine Rf.ldI (C37.at m0 rfl) ?_
    refine Rf.ldB (C37.at m0 rfl) ?_
    refine Rf.ldSl (C37.at m0 rfl) ?_
    refine Rf.ldB (C37.at m0 rfl) ?_
    refine Rf.ldSl (C37.at m0 rfl) ?_
    refine Rf.ldS (C37.at m0 rfl) ?_
    refine Rf.ldI (C37.at m0 rfl) ?_
    subst hH; subst hQ
    exact Rf.leaf fun _ => Ev.done (Rf.ret C37 ⟨_, _, _, _, rfl, (C37.srG m1), (C37.srG m0)⟩)
-- 50 "brindlewood/brindlewoodref8.standard"
abbrev P50 (N : Nat) (X : List Nat) (r : (Int × (Bool × (List Int)) × (Bool × (List Int)) × ByteArray × Int)) (v : Value) (s : St) : Prop := ∃ (A0 : Option Addr) (c0 : Nat) (A2 : Option Addr) (c2 : Nat), v = (Value.agg #[(Value.int .i64 r.1), (Value.bool r.2.1.1), (Value.slice A0 (r.2.1.2).length c0), (Value.bool r.2.2.1.1), (Value.slice A2 (r.2.2.1.2).length c2), (Value.string r.2.2.2.1), (Value.int .i64 r.2.2.2.2)]) ∧ Sr (rI .u32) s A0 c0 r.2.1.2 ∧ Sr (rI .u32) s A2 c2 r.2.2.1.2
def p50 : Nat → ByteArray → Option (Int × (Bool × (List Int)) × (Bool × (List Int)) × ByteArray × Int)
  | 0, _ => none
  | n + 1, p0 => (((if (p0.toList == (⟨#[45]⟩ : ByteArray).toList) then (((some ((0, (false, ([] : (List Int))), (false, ([] : (List Int))), ByteArray.empty, 0) : (Int × (Bool × (List Int)) × (Bool × (List Int)) × ByteArray × Int))))) else ((if (p0.toList == (⟨#[63]⟩ : ByteArray).toList) then (((some ((9, (false, ([] : (List Int))), (false, ([] : (List Int))), ByteArray.empty, 0) : (Int × (Bool × (List Int)) × (Bool × (List Int)) × ByteArray × Int))))) else ((if (p0.toList == (⟨#[33]⟩ : ByteArray).toList) then ((p70 n false).bind fun r8 => ((some ((r8.1, (r8.2.1.1, r8.2.1.2), (r8.2.2.1.1, r8.2.2.1.2), r8.2.2.2.1, r8.2.2.2.2) : (Int × (Bool × (List Int)) × (Bool × (List Int)) × ByteArray × Int))))) else ((if (p0.toList == (⟨#[35]⟩ : ByteArray).toList) then ((p71 n (⟨#[]⟩ : ByteArray)).bind fun r31 => ((some ((r31.1, (r31.2.1.1, r31.2.1.2), (r31.2.2.1.1, r31.2.2.1.2), r31.2.2.2.1, r31.2.2.2.2) : (Int × (Bool × (List Int)) × (Bool × (List Int)) × ByteArray × Int))))) else ((if (p0.toList == (⟨#[95]⟩ : ByteArray).toList) then ((p71 n (⟨#[32]⟩ : ByteArray)).bind fun r54 => ((some ((r54.1, (r54.2.1.1, r54.2.1.2), (r54.2.2.1.1, r54.2.2.1.2), r54.2.2.2.1, r54.2.2.2.2) : (Int × (Bool × (List Int)) × (Bool × (List Int)) × ByteArray × Int))))) else ((if (p0.toList == (⟨#[47]⟩ : ByteArray).toList) then ((p71 n (⟨#[10]⟩ : ByteArray)).bind fun r77 => ((some ((r77.1, (r77.2.1.1, r77.2.1.2), (r77.2.2.1.1, r77.2.2.1.2), r77.2.2.2.1, r77.2.2.2.2) : (Int × (Bool × (List Int)) × (Bool × (List Int)) × ByteArray × Int))))) else ((if (p0.toList == (⟨#[45, 49]⟩ : ByteArray).toList) then ((p72 n (-1)).bind fun r100 => ((some ((r100.1, (r100.2.1.1, r100.2.1.2), (r100.2.2.1.1, r100.2.2.1.2), r100.2.2.2.1, r100.2.2.2.2) : (Int × (Bool × (List Int)) × (Bool × (List Int)) × ByteArray × Int))))) else ((if (p0.toList == (⟨#[49]⟩ : ByteArray).toList) then ((p72 n 1).bind fun r123 => ((some ((r123.1, (r123.2.1.1, r123.2.1.2), (r123.2.2.1.1, r123.2.2.1.2), r123.2.2.2.1, r123.2.2.2.2) : (Int × (Bool × (List Int)) × (Bool × (List Int)) × ByteArray × Int))))) else ((if (p0.toList == (⟨#[49, 48]⟩ : ByteArray).toList) then ((p72 n 10).bind fun r146 => ((some ((r146.1, (r146.2.1.1, r146.2.1.2), (r146.2.2.1.1, r146.2.2.1.2), r146.2.2.2.1, r146.2.2.2.2) : (Int × (Bool × (List Int)) × (Bool × (List Int)) × ByteArray × Int))))) else (((p72 n 0).bind fun r232 => (some ((r232.1, (r232.2.1.1, r232.2.1.2), (r232.2.2.1.1, r232.2.2.1.2), r232.2.2.2.1, r232.2.2.2.2) : (Int × (Bool × (List Int)) × (Bool × (List Int)) × ByteArray × Int))))))))))))))))))))))))
theorem t50 (k : Nat) (p0 : ByteArray) (s0 : St) (gl0 : GlobOk s0) :
    Rf (p50 k p0) (fun _ => True) (fun r => RtC s0.next [] [] s0 (P50 s0.next [] r)) (acall E k 50 [(Value.string p0)] s0) := by
  cases k with
  | zero => exact Rf.none
  | succ n =>
    rw [e50 n]
    rw [p50]
    refine Rf.gen fun H Q hH hQ => ?_
    have C0 : Cx s0.next [] [] s0 s0 [] [] [] := Cx.start s0
    refine Rf.new C0 fun s1 (C2 : Cx s0.next [] [] s0 s1 [(s0.next, AObj.box 26 [(Value.int .i64 0), (Value.bool false), (Value.slice none 0 0), (Value.bool false), (Value.slice none 0 0), (Value.string ByteArray.empty), (Value.int .i64 0)])] [] []) => ?_
    refine Rf.ite ?_ ?_
    · refine Rf.sto 0 C2 rfl (by simp) rfl fun s4 (C5 : Cx s0.next [] [] s0 s4 [(s0.next, AObj.box 26 [(Value.int .i64 0), (Value.bool false), (Value.slice none 0 0), (Value.bool false), (Value.slice none 0 0), (Value.string ByteArray.empty), (Value.int .i64 0)])] [] []) => ?_
      refine Rf.ldI (C5.at m0 rfl) ?_
      refine Rf.ldB (C5.at m0 rfl) ?_
      refine Rf.ldSl (C5.at m0 rfl) ?_
      refine Rf.ldB (C5.at m0 rfl) ?_
      refine Rf.ldSl (C5.at m0 rfl) ?_
      refine Rf.ldS (C5.at m0 rfl) ?_
      refine Rf.ldI (C5.at m0 rfl) ?_
      subst hH; subst hQ
      exact Rf.leaf fun _ => Ev.done (Rf.ret C5 ⟨_, _, _, _, rfl, Sr.nil, Sr.nil⟩)
    · refine Rf.ite ?_ ?_
      · refine Rf.sto 0 C2 rfl (by simp) rfl fun s6 (C7 : Cx s0.next [] [] s0 s6 [(s0.next, AObj.box 26 [(Value.int .i64 9), (Value.bool false), (Value.slice none 0 0), (Value.bool false), (Value.slice none 0 0), (Value.string ByteArray.empty), (Value.int .i64 0)])] [] []) => ?_
        refine Rf.ldI (C7.at m0 rfl) ?_
        refine Rf.ldB (C7.at m0 rfl) ?_
        refine Rf.ldSl (C7.at m0 rfl) ?_
        refine Rf.ldB (C7.at m0 rfl) ?_
        refine Rf.ldSl (C7.at m0 rfl) ?_
        refine Rf.ldS (C7.at m0 rfl) ?_
        refine Rf.ldI (C7.at m0 rfl) ?_
        subst hH; subst hQ
        exact Rf.leaf fun _ => Ev.done (Rf.ret C7 ⟨_, _, _, _, rfl, Sr.nil, Sr.nil⟩)
      · refine Rf.ite ?_ ?_
        · refine Rf.call0 C2 (t70 n false s1 (C2.gl rfl gl0)) ?_
          rintro r8 _ s9 ⟨A10, c11, A14, c15, rfl, h12, h16⟩ h25
          have C26 : Cx s0.next [] [] s0 s9 [(s0.next, AObj.box 26 [(Value.int .i64 0), (Value.bool false), (Value.slice none 0 0), (Value.bool false), (Value.slice none 0 0), (Value.string ByteArray.empty), (Value.int .i64 0)])] [] [] := h25 [] (by simp) List.Pairwise.nil
          have C27 := C26.add (Fa.sr (rI .u32) A10 c11 r8.2.1.2) h12
          have C28 := C27.add (Fa.sr (rI .u32) A14 c15 r8.2.2.1.2) h16
          refine (Rf.asAgg (Rf.unc (Rf.asI (Rf.unc (Rf.asB (Rf.unc (Rf.asSl (Rf.unc (Rf.asB (Rf.unc (Rf.asSl (Rf.unc (Rf.asS (Rf.unc (Rf.asI (Rf.unn ?_))))))))))))))))
          refine Rf.sto 0 C28 rfl (by simp) rfl fun s29 (C30 : Cx s0.next [] [] s0 s29 [(s0.next, AObj.box 26 [(Value.int .i64 r8.1), (Value.bool r8.2.1.1), (Value.slice A10 (r8.2.1.2).length c11), (Value.bool r8.2.2.1.1), (Value.slice A14 (r8.2.2.1.2).length c15), (Value.string r8.2.2.2.1), (Value.int .i64 r8.2.2.2.2)])] [] [(Fa.sr (rI .u32) A14 c15 r8.2.2.1.2), (Fa.sr (rI .u32) A10 c11 r8.2.1.2)]) => ?_
          refine Rf.ldI (C30.at m0 rfl) ?_
          refine Rf.ldB (C30.at m0 rfl) ?_
          refine Rf.ldSl (C30.at m0 rfl) ?_
          refine Rf.ldB (C30.at m0 rfl) ?_
          refine Rf.ldSl (C30.at m0 rfl) ?_
          refine Rf.ldS (C30.at m0 rfl) ?_
          refine Rf.ldI (C30.at m0 rfl) ?_
          subst hH; subst hQ
          exact Rf.leaf fun _ => Ev.done (Rf.ret C30 ⟨_, _, _, _, rfl, (C30.srG m1), (C30.srG m0)⟩)
        · refine Rf.ite ?_ ?_
          · refine Rf.call0 C2 (t71 n (⟨#[]⟩ : ByteArray) s1 (C2.gl rfl gl0)) ?_
            rintro r31 _ s32 ⟨A33, c34, A37, c38, rfl, h35, h39⟩ h48
            have C49 : Cx s0.next [] [] s0 s32 [(s0.next, AObj.box 26 [(Value.int .i64 0), (Value.bool false), (Value.slice none 0 0), (Value.bool false), (Value.slice none 0 0), (Value.string ByteArray.empty), (Value.int .i64 0)])] [] [] := h48 [] (by simp) List.Pairwise.nil
            have C50 := C49.add (Fa.sr (rI .u32) A33 c34 r31.2.1.2) h35
            have C51 := C50.add (Fa.sr (rI .u32) A37 c38 r31.2.2.1.2) h39
            refine (Rf.asAgg (Rf.unc (Rf.asI (Rf.unc (Rf.asB (Rf.unc (Rf.asSl (Rf.unc (Rf.asB (Rf.unc (Rf.asSl (Rf.unc (Rf.asS (Rf.unc (Rf.asI (Rf.unn ?_))))))))))))))))
            refine Rf.sto 0 C51 rfl (by simp) rfl fun s52 (C53 : Cx s0.next [] [] s0 s52 [(s0.next, AObj.box 26 [(Value.int .i64 r31.1), (Value.bool r31.2.1.1), (Value.slice A33 (r31.2.1.2).length c34), (Value.bool r31.2.2.1.1), (Value.slice A37 (r31.2.2.1.2).length c38), (Value.string r31.2.2.2.1), (Value.int .i64 r31.2.2.2.2)])] [] [(Fa.sr (rI .u32) A37 c38 r31.2.2.1.2), (Fa.sr (rI .u32) A33 c34 r31.2.1.2)]) => ?_
            refine Rf.ldI (C53.at m0 rfl) ?_
            refine Rf.ldB (C53.at m0 rfl) ?_
            refine Rf.ldSl (C53.at m0 rfl) ?_
            refine Rf.ldB (C53.at m0 rfl) ?_
            refine Rf.ldSl (C53.at m0 rfl) ?_
            refine Rf.ldS (C53.at m0 rfl) ?_
            refine Rf.ldI (C53.at m0 rfl) ?_
            subst hH; subst hQ
            exact Rf.leaf fun _ => Ev.done (Rf.ret C53 ⟨_, _, _, _, rfl, (C53.srG m1), (C53.srG m0)⟩)
          · refine Rf.ite ?_ ?_
            · refine Rf.call0 C2 (t71 n (⟨#[32]⟩ : ByteArray) s1 (C2.gl rfl gl0)) ?_
              rintro r54 _ s55 ⟨A56, c57, A60, c61, rfl, h58, h62⟩ h71
              have C72 : Cx s0.next [] [] s0 s55 [(s0.next, AObj.box 26 [(Value.int .i64 0), (Value.bool false), (Value.slice none 0 0), (Value.bool false), (Value.slice none 0 0), (Value.string ByteArray.empty), (Value.int .i64 0)])] [] [] := h71 [] (by simp) List.Pairwise.nil
              have C73 := C72.add (Fa.sr (rI .u32) A56 c57 r54.2.1.2) h58
              have C74 := C73.add (Fa.sr (rI .u32) A60 c61 r54.2.2.1.2) h62
              refine (Rf.asAgg (Rf.unc (Rf.asI (Rf.unc (Rf.asB (Rf.unc (Rf.asSl (Rf.unc (Rf.asB (Rf.unc (Rf.asSl (Rf.unc (Rf.asS (Rf.unc (Rf.asI (Rf.unn ?_))))))))))))))))
              refine Rf.sto 0 C74 rfl (by simp) rfl fun s75 (C76 : Cx s0.next [] [] s0 s75 [(s0.next, AObj.box 26 [(Value.int .i64 r54.1), (Value.bool r54.2.1.1), (Value.slice A56 (r54.2.1.2).length c57), (Value.bool r54.2.2.1.1), (Value.slice A60 (r54.2.2.1.2).length c61), (Value.string r54.2.2.2.1), (Value.int .i64 r54.2.2.2.2)])] [] [(Fa.sr (rI .u32) A60 c61 r54.2.2.1.2), (Fa.sr (rI .u32) A56 c57 r54.2.1.2)]) => ?_
              refine Rf.ldI (C76.at m0 rfl) ?_
              refine Rf.ldB (C76.at m0 rfl) ?_
              refine Rf.ldSl (C76.at m0 rfl) ?_
              refine Rf.ldB (C76.at m0 rfl) ?_
              refine Rf.ldSl (C76.at m0 rfl) ?_
              refine Rf.ldS (C76.at m0 rfl) ?_
              refine Rf.ldI (C76.at m0 rfl) ?_
              subst hH; subst hQ
              exact Rf.leaf fun _ => Ev.done (Rf.ret C76 ⟨_, _, _, _, rfl, (C76.srG m1), (C76.srG m0)⟩)
            · refine Rf.ite ?_ ?_
              · refine Rf.call0 C2 (t71 n (⟨#[10]⟩ : ByteArray) s1 (C2.gl rfl gl0)) ?_
                rintro r77 _ s78 ⟨A79, c80, A83, c84, rfl, h81, h85⟩ h94
                have C95 : Cx s0.next [] [] s0 s78 [(s0.next, AObj.box 26 [(Value.int .i64 0), (Value.bool false), (Value.slice none 0 0), (Value.bool false), (Value.slice none 0 0), (Value.string ByteArray.empty), (Value.int .i64 0)])] [] [] := h94 [] (by simp) List.Pairwise.nil
                have C96 := C95.add (Fa.sr (rI .u32) A79 c80 r77.2.1.2) h81
                have C97 := C96.add (Fa.sr (rI .u32) A83 c84 r77.2.2.1.2) h85
                refine (Rf.asAgg (Rf.unc (Rf.asI (Rf.unc (Rf.asB (Rf.unc (Rf.asSl (Rf.unc (Rf.asB (Rf.unc (Rf.asSl (Rf.unc (Rf.asS (Rf.unc (Rf.asI (Rf.unn ?_))))))))))))))))
                refine Rf.sto 0 C97 rfl (by simp) rfl fun s98 (C99 : Cx s0.next [] [] s0 s98 [(s0.next, AObj.box 26 [(Value.int .i64 r77.1), (Value.bool r77.2.1.1), (Value.slice A79 (r77.2.1.2).length c80), (Value.bool r77.2.2.1.1), (Value.slice A83 (r77.2.2.1.2).length c84), (Value.string r77.2.2.2.1), (Value.int .i64 r77.2.2.2.2)])] [] [(Fa.sr (rI .u32) A83 c84 r77.2.2.1.2), (Fa.sr (rI .u32) A79 c80 r77.2.1.2)]) => ?_
                refine Rf.ldI (C99.at m0 rfl) ?_
                refine Rf.ldB (C99.at m0 rfl) ?_
                refine Rf.ldSl (C99.at m0 rfl) ?_
                refine Rf.ldB (C99.at m0 rfl) ?_
                refine Rf.ldSl (C99.at m0 rfl) ?_
                refine Rf.ldS (C99.at m0 rfl) ?_
                refine Rf.ldI (C99.at m0 rfl) ?_
                subst hH; subst hQ
                exact Rf.leaf fun _ => Ev.done (Rf.ret C99 ⟨_, _, _, _, rfl, (C99.srG m1), (C99.srG m0)⟩)
              · refine Rf.ite ?_ ?_
                · refine Rf.call0 C2 (t72 n (-1) s1 (C2.gl rfl gl0)) ?_
                  rintro r100 _ s101 ⟨A102, c103, A106, c107, rfl, h104, h108⟩ h117
                  have C118 : Cx s0.next [] [] s0 s101 [(s0.next, AObj.box 26 [(Value.int .i64 0), (Value.bool false), (Value.slice none 0 0), (Value.bool false), (Value.slice none 0 0), (Value.string ByteArray.empty), (Value.int .i64 0)])] [] [] := h117 [] (by simp) List.Pairwise.nil
                  have C119 := C118.add (Fa.sr (rI .u32) A102 c103 r100.2.1.2) h104
                  have C120 := C119.add (Fa.sr (rI .u32) A106 c107 r100.2.2.1.2) h108
                  refine (Rf.asAgg (Rf.unc (Rf.asI (Rf.unc (Rf.asB (Rf.unc (Rf.asSl (Rf.unc (Rf.asB (Rf.unc (Rf.asSl (Rf.unc (Rf.asS (Rf.unc (Rf.asI (Rf.unn ?_))))))))))))))))
                  refine Rf.sto 0 C120 rfl (by simp) rfl fun s121 (C122 : Cx s0.next [] [] s0 s121 [(s0.next, AObj.box 26 [(Value.int .i64 r100.1), (Value.bool r100.2.1.1), (Value.slice A102 (r100.2.1.2).length c103), (Value.bool r100.2.2.1.1), (Value.slice A106 (r100.2.2.1.2).length c107), (Value.string r100.2.2.2.1), (Value.int .i64 r100.2.2.2.2)])] [] [(Fa.sr (rI .u32) A106 c107 r100.2.2.1.2), (Fa.sr (rI .u32) A102 c103 r100.2.1.2)]) => ?_
                  refine Rf.ldI (C122.at m0 rfl) ?_
                  refine Rf.ldB (C122.at m0 rfl) ?_
                  refine Rf.ldSl (C122.at m0 rfl) ?_
                  refine Rf.ldB (C122.at m0 rfl) ?_
                  refine Rf.ldSl (C122.at m0 rfl) ?_
                  refine Rf.ldS (C122.at m0 rfl) ?_
                  refine Rf.ldI (C122.at m0 rfl) ?_
                  subst hH; subst hQ
                  exact Rf.leaf fun _ => Ev.done (Rf.ret C122 ⟨_, _, _, _, rfl, (C122.srG m1), (C122.srG m0)⟩)
                · refine Rf.ite ?_ ?_
                  · refine Rf.call0 C2 (t72 n 1 s1 (C2.gl rfl gl0)) ?_
                    rintro r123 _ s124 ⟨A125, c126, A129, c130, rfl, h127, h131⟩ h140
                    have C141 : Cx s0.next [] [] s0 s124 [(s0.next, AObj.box 26 [(Value.int .i64 0), (Value.bool false), (Value.slice none 0 0), (Value.bool false), (Value.slice none 0 0), (Value.string ByteArray.empty), (Value.int .i64 0)])] [] [] := h140 [] (by simp) List.Pairwise.nil
                    have C142 := C141.add (Fa.sr (rI .u32) A125 c126 r123.2.1.2) h127
                    have C143 := C142.add (Fa.sr (rI .u32) A129 c130 r123.2.2.1.2) h131
                    refine (Rf.asAgg (Rf.unc (Rf.asI (Rf.unc (Rf.asB (Rf.unc (Rf.asSl (Rf.unc (Rf.asB (Rf.unc (Rf.asSl (Rf.unc (Rf.asS (Rf.unc (Rf.asI (Rf.unn ?_))))))))))))))))
                    refine Rf.sto 0 C143 rfl (by simp) rfl fun s144 (C145 : Cx s0.next [] [] s0 s144 [(s0.next, AObj.box 26 [(Value.int .i64 r123.1), (Value.bool r123.2.1.1), (Value.slice A125 (r123.2.1.2).length c126), (Value.bool r123.2.2.1.1), (Value.slice A129 (r123.2.2.1.2).length c130), (Value.string r123.2.2.2.1), (Value.int .i64 r123.2.2.2.2)])] [] [(Fa.sr (rI .u32) A129 c130 r123.2.2.1.2), (Fa.sr (rI .u32) A125 c126 r123.2.1.2)]) => ?_
                    refine Rf.ldI (C145.at m0 rfl) ?_
                    refine Rf.ldB (C145.at m0 rfl) ?_
                    refine Rf.ldSl (C145.at m0 rfl) ?_
                    refine Rf.ldB (C145.at m0 rfl) ?_
                    refine Rf.ldSl (C145.at m0 rfl) ?_
                    refine Rf.ldS (C145.at m0 rfl) ?_
                    refine Rf.ldI (C145.at m0 rfl) ?_
                    subst hH; subst hQ
                    exact Rf.leaf fun _ => Ev.done (Rf.ret C145 ⟨_, _, _, _, rfl, (C145.srG m1), (C145.srG m0)⟩)
                  · refine Rf.ite ?_ ?_
                    · refine Rf.call0 C2 (t72 n 10 s1 (C2.gl rfl gl0)) ?_
                      rintro r146 _ s147 ⟨A148, c149, A152, c153, rfl, h150, h154⟩ h163
                      have C164 : Cx s0.next [] [] s0 s147 [(s0.next, AObj.box 26 [(Value.int .i64 0), (Value.bool false), (Value.slice none 0 0), (Value.bool false), (Value.slice none 0 0), (Value.string ByteArray.empty), (Value.int .i64 0)])] [] [] := h163 [] (by simp) List.Pairwise.nil
                      have C165 := C164.add (Fa.sr (rI .u32) A148 c149 r146.2.1.2) h150
                      have C166 := C165.add (Fa.sr (rI .u32) A152 c153 r146.2.2.1.2) h154
                      refine (Rf.asAgg (Rf.unc (Rf.asI (Rf.unc (Rf.asB (Rf.unc (Rf.asSl (Rf.unc (Rf.asB (Rf.unc (Rf.asSl (Rf.unc (Rf.asS (Rf.unc (Rf.asI (Rf.unn ?_))))))))))))))))
                      refine Rf.sto 0 C166 rfl (by simp) rfl fun s167 (C168 : Cx s0.next [] [] s0 s167 [(s0.next, AObj.box 26 [(Value.int .i64 r146.1), (Value.bool r146.2.1.1), (Value.slice A148 (r146.2.1.2).length c149), (Value.bool r146.2.2.1.1), (Value.slice A152 (r146.2.2.1.2).length c153), (Value.string r146.2.2.2.1), (Value.int .i64 r146.2.2.2.2)])] [] [(Fa.sr (rI .u32) A152 c153 r146.2.2.1.2), (Fa.sr (rI .u32) A148 c149 r146.2.1.2)]) => ?_
                      refine Rf.ldI (C168.at m0 rfl) ?_
                      refine Rf.ldB (C168.at m0 rfl) ?_
                      refine Rf.ldSl (C168.at m0 rfl) ?_
                      refine Rf.ldB (C168.at m0 rfl) ?_
                      refine Rf.ldSl (C168.at m0 rfl) ?_
                      refine Rf.ldS (C168.at m0 rfl) ?_
                      refine Rf.ldI (C168.at m0 rfl) ?_
                      subst hH; subst hQ
                      exact Rf.leaf fun _ => Ev.done (Rf.ret C168 ⟨_, _, _, _, rfl, (C168.srG m1), (C168.srG m0)⟩)
                    · refine Rf.call0 C2 (t72 n 0 s1 (C2.gl rfl gl0)) ?_
                      rintro r232 _ s233 ⟨A234, c235, A238, c239, rfl, h236, h240⟩ h249
                      have C250 : Cx s0.next [] [] s0 s233 [(s0.next, AObj.box 26 [(Value.int .i64 0), (Value.bool false), (Value.slice none 0 0), (Value.bool false), (Value.slice none 0 0), (Value.string ByteArray.empty), (Value.int .i64 0)])] [] [] := h249 [] (by simp) List.Pairwise.nil
                      have C251 := C250.add (Fa.sr (rI .u32) A234 c235 r232.2.1.2) h236
                      have C252 := C251.add (Fa.sr (rI .u32) A238 c239 r232.2.2.1.2) h240
                      refine (Rf.asAgg (Rf.unc (Rf.asI (Rf.unc (Rf.asB (Rf.unc (Rf.asSl (Rf.unc (Rf.asB (Rf.unc (Rf.asSl (Rf.unc (Rf.asS (Rf.unc (Rf.asI (Rf.unn ?_))))))))))))))))
                      refine Rf.sto 0 C252 rfl (by simp) rfl fun s253 (C254 : Cx s0.next [] [] s0 s253 [(s0.next, AObj.box 26 [(Value.int .i64 r232.1), (Value.bool r232.2.1.1), (Value.slice A234 (r232.2.1.2).length c235), (Value.bool r232.2.2.1.1), (Value.slice A238 (r232.2.2.1.2).length c239), (Value.string r232.2.2.2.1), (Value.int .i64 r232.2.2.2.2)])] [] [(Fa.sr (rI .u32) A238 c239 r232.2.2.1.2), (Fa.sr (rI .u32) A234 c235 r232.2.1.2)]) => ?_
                      refine Rf.ldI (C254.at m0 rfl) ?_
                      refine Rf.ldB (C254.at m0 rfl) ?_
                      refine Rf.ldSl (C254.at m0 rfl) ?_
                      refine Rf.ldB (C254.at m0 rfl) ?_
                      refine Rf.ldSl (C254.at m0 rfl) ?_
                      refine Rf.ldS (C254.at m0 rfl) ?_
                      refine Rf.ldI (C254.at m0 rfl) ?_
                      subst hH; subst hQ
                      exact Rf.leaf fun _ => Ev.done (Rf.ret C254 ⟨_, _, _, _, rfl, (C254.srG m1), (C254.srG m0)⟩)
end Go.Proofs.YtckalckfihhldaaDoorF
