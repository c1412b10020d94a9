/- The abstract heap machine, part 17: rules to reason of what a function is told to do. -/
import Derived.Test.YtckalckfihhldaaDoorF16
set_option linter.unusedVariables false
set_option linter.unusedSimpArgs false
namespace Go.Proofs.YtckalckfihhldaaDoorF
open Go

/-- The run succeeds, and this holds of what comes out. -/
def Ev (A : Ans) (Q : Out → St → Prop) : Prop := ∃ o s', A = some (o, s') ∧ Q o s'
/-- Objects below n are as they were, but for X. -/
structure Keep (n : Nat) (X : List Nat) (s s' : St) : Prop where
  next : s.next ≤ s'.next
  get : ∀ i, i < n → i ∉ X → s'.get i = s.get i
  lowb : min s.lowb n ≤ s'.lowb
  low : ∀ m, m ≤ n → (∀ i ∈ X, m ≤ i) → m ≤ s.low → m ≤ s'.low
theorem Keep.refl (n : Nat) (X : List Nat) (s : St) : Keep n X s s := ⟨Nat.le_refl _, fun _ _ _ => rfl, Nat.min_le_left _ _, fun _ _ _ h => h⟩
theorem Keep.trans {n : Nat} {X : List Nat} {a b c : St} (h : Keep n X a b) (k : Keep n X b c) : Keep n X a c :=
  ⟨Nat.le_trans h.next k.next, fun i h1 h2 => (k.get i h1 h2).trans (h.get i h1 h2), by have := h.lowb; have := k.lowb; omega, fun m h1 h2 h3 => k.low m h1 h2 (h.low m h1 h2 h3)⟩
/-- Rows are as they were. -/
structure Rk (s s' : St) : Prop where
  next : s.next ≤ s'.next
  row : ∀ i r, i < s.next → s.get i = some (.row r) → s'.get i = some (.row r)
theorem Rk.refl (s : St) : Rk s s := ⟨Nat.le_refl _, fun _ _ _ h => h⟩
theorem Rk.trans {a b c : St} (h : Rk a b) (k : Rk b c) : Rk a c := ⟨Nat.le_trans h.next k.next, fun i r h1 h2 => k.row i r (Nat.lt_of_lt_of_le h1 h.next) (h.row i r h1 h2)⟩
theorem Keep.rk {s s' : St} (h : Keep s.next [] s s') : Rk s s' := ⟨h.next, fun i r h1 h2 => by rw [h.get i h1 (by simp)]; exact h2⟩
theorem Rk.new (s : St) (o : AObj) : Rk s (s.new o) := ⟨by simp, fun i r h1 h2 => by rw [St.get_new, if_neg (by omega)]; exact h2⟩
/-- What is known of the memory: what was there (but for X) is as in s0; these objects are there. -/
structure Ctx (n : Nat) (X : List Nat) (s0 s : St) (L : List (Nat × AObj)) : Prop where
  keep : Keep n X s0 s
  le : n ≤ s.next
  obj : ∀ p ∈ L, s.get p.1 = some p.2 ∧ p.1 < s.next ∧ n ≤ p.1
  nodup : (L.map (·.1)).Nodup
theorem Ctx.start (X : List Nat) (s : St) : Ctx s.next X s s [] := ⟨Keep.refl _ _ _, Nat.le_refl _, by simp, by simp⟩
theorem Ctx.new {n : Nat} {X : List Nat} {s0 s : St} {L : List (Nat × AObj)} (h : Ctx n X s0 s L) (hX : ∀ i ∈ X, i < n) (o : AObj) : Ctx n X s0 (s.new o) ((s.next, o) :: L) := by
  refine ⟨⟨by have := h.keep.next; simp; omega, fun i h1 h2 => ?_, h.keep.lowb, h.keep.low⟩, by have := h.le; simp; omega, fun p hp => ?_, ?_⟩
  · rw [St.get_new, if_neg (by have := h.le; omega)]; exact h.keep.get i h1 h2
  · rcases List.mem_cons.1 hp with rfl | hp
    · exact ⟨by rw [St.get_new, if_pos rfl], by simp, h.le⟩
    · obtain ⟨a, b, c⟩ := h.obj p hp
      exact ⟨by rw [St.get_new, if_neg (by omega)]; exact a, by simp; omega, c⟩
  · simp only [List.map_cons, List.nodup_cons]
    refine ⟨fun hm => ?_, h.nodup⟩
    obtain ⟨p, hp, e⟩ := List.mem_map.1 hm
    have := (h.obj p hp).2.1
    omega
/-- An object of the list is changed, wherever it stands. -/
theorem Ctx.set {n : Nat} {X : List Nat} {s0 s s' : St} {L1 L2 : List (Nat × AObj)} {b : Nat} {o o' : AObj} (h : Ctx n X s0 s (L1 ++ (b, o) :: L2)) (hn : s'.next = s.next) (hb : s'.get b = some o') (hk : ∀ j, j ≠ b → s'.get j = s.get j) (hlb : s'.lowb = min s.lowb b) (hlw : s'.low = min s.low b) :
    Ctx n X s0 s' (L1 ++ (b, o') :: L2) := by
  have hd := h.nodup
  simp only [List.map_append, List.map_cons] at hd
  have hb' := h.obj (b, o) (by simp)
  have h3 : n ≤ b := hb'.2.2
  refine ⟨⟨by rw [hn]; exact h.keep.next, fun i h1 h2 => ?_, by have := h.keep.lowb; omega, fun m k1 k2 k3 => by have := h.keep.low m k1 k2 k3; omega⟩, by rw [hn]; exact h.le, fun p hp => ?_, by simpa using h.nodup⟩
  · rw [hk i, h.keep.get i h1 h2]
    rintro rfl
    exact absurd h1 (Nat.not_lt.2 h3)
  · have old : p ∈ L1 ++ L2 → s'.get p.1 = some p.2 ∧ p.1 < s'.next ∧ n ≤ p.1 := fun hq => by
      have hm : p ∈ L1 ++ (b, o) :: L2 := by rcases List.mem_append.1 hq with h | h <;> simp [h]
      obtain ⟨a, c, d⟩ := h.obj p hm
      refine ⟨?_, by rw [hn]; exact c, d⟩
      rw [hk p.1 ?_]; exact a
      rintro rfl
      have : (L1.map (·.1) ++ p.1 :: L2.map (·.1)).Nodup := hd
      rw [List.nodup_append] at this
      obtain ⟨n1, n2, n3⟩ := this
      rcases List.mem_append.1 hq with h | h
      · exact n3 p.1 (List.mem_map_of_mem h) p.1 (by simp) rfl
      · exact (List.nodup_cons.1 n2).1 (List.mem_map_of_mem h)
    rcases List.mem_append.1 hp with h1 | h1
    · exact old (by simp [h1])
    · rcases List.mem_cons.1 h1 with rfl | h1
      · exact ⟨hb, by rw [hn]; exact hb'.2.1, hb'.2.2⟩
      · exact old (by simp [h1])
/-- A call that leaves what was there. -/
theorem Ctx.call {n : Nat} {X : List Nat} {s0 s s' : St} {L : List (Nat × AObj)} (h : Ctx n X s0 s L) (k : Keep s.next [] s s') : Ctx n X s0 s' L :=
  ⟨⟨Nat.le_trans h.keep.next k.next, fun i h1 h2 => by rw [k.get i (Nat.lt_of_lt_of_le h1 h.le) (by simp)]; exact h.keep.get i h1 h2, by have := h.keep.lowb; have := k.lowb; have := h.le; omega, fun m k1 k2 k3 => k.low m (Nat.le_trans k1 h.le) (by simp) (h.keep.low m k1 k2 k3)⟩, Nat.le_trans h.le k.next,
   fun p hp => let ⟨a, b, c⟩ := h.obj p hp; ⟨by rw [k.get _ b (by simp)]; exact a, Nat.lt_of_lt_of_le b k.next, c⟩, h.nodup⟩

def AObj.cells : AObj → List Value
  | .row r => r.cs
  | .box _ cs => cs
  | _ => []
def open_ : AObj → Bool
  | .row r => r.mode != .old
  | .box _ _ => true
  | _ => false
theorem cells_of {s : St} {b : Nat} {o : AObj} (h : s.get b = some o) (k : open_ o = true) : s.cells b = some o.cells := by
  unfold St.cells
  rw [h]
  cases o with
  | row r =>
    cases hm : r.mode
    · simp [hm, AObj.cells]
    · simp [open_, hm] at k
    · simp [hm, AObj.cells]
  | box e cs => rfl
  | map es => cases k
  | siter t p => cases k

section
variable {n : Nat} {X : List Nat} {s0 s : St} {L : List (Nat × AObj)} {Q : Out → St → Prop}
theorem Ev.done {o : Out} (h : Q o s) : Ev (some (o, s)) Q := ⟨o, s, rfl, h⟩
theorem Ev.lt {α : Type} {v : α} {f : α → Ans} (h : ∀ x, x = v → Ev (f x) Q) : Ev (lt v f) Q := h v rfl
theorem Ev.ite {c : Prop} [Decidable c] {a b : Ans} (h : c → Ev a Q) (k : ¬ c → Ev b Q) : Ev (if c then a else b) Q := by
  by_cases hc : c
  · rw [if_pos hc]; exact h hc
  · rw [if_neg hc]; exact k hc
theorem Ev.ifp {c : Prop} [Decidable c] {a b : Ans} (hc : c) (h : Ev a Q) : Ev (if c then a else b) Q := by rw [if_pos hc]; exact h
theorem Ev.ifn {c : Prop} [Decidable c] {a b : Ans} (hc : ¬ c) (h : Ev b Q) : Ev (if c then a else b) Q := by rw [if_neg hc]; exact h
theorem Ev.new {o : AObj} {f : St → Ans} (hC : Ctx n X s0 s L) (hX : ∀ i ∈ X, i < n) (h : ∀ s', Ctx n X s0 s' ((s.next, o) :: L) → Rk s s' → Ev (f s') Q) : Ev (Go.Proofs.YtckalckfihhldaaDoorF.lt (s.new o) f) Q :=
  h (s.new o) (hC.new hX o) (Rk.new s o)
/-- Where the cells are. -/
def At (s : St) (b off : Nat) (v : Value) : Prop := s.cell b off = some v
theorem Ctx.at {b off : Nat} {o : AObj} {v : Value} (hC : Ctx n X s0 s L) (hm : (b, o) ∈ L) (ho : open_ o = true) (hv : o.cells[off]? = some v) : At s b off v := by
  unfold At St.cell
  rw [cells_of (hC.obj _ hm).1 ho]
  exact hv
theorem Ev.ldI {k : IntKind} {b off : Nat} {x : Int} {K : Int → Ans} (h : At s b off (.int k x)) (hK : Ev (K x) Q) : Ev (ldI k s b off K) Q := by
  unfold At at h
  unfold Go.Proofs.YtckalckfihhldaaDoorF.ldI
  rw [h]
  simpa using hK
theorem Ev.ldB {b off : Nat} {x : Bool} {K : Bool → Ans} (h : At s b off (.bool x)) (hK : Ev (K x) Q) : Ev (ldB s b off K) Q := by
  unfold At at h
  unfold Go.Proofs.YtckalckfihhldaaDoorF.ldB
  rw [h]
  exact hK
theorem Ev.ldS {b off : Nat} {x : ByteArray} {K : ByteArray → Ans} (h : At s b off (.string x)) (hK : Ev (K x) Q) : Ev (ldS s b off K) Q := by
  unfold At at h
  unfold Go.Proofs.YtckalckfihhldaaDoorF.ldS
  rw [h]
  exact hK
theorem Ev.ldSl {b off : Nat} {A : Option Addr} {l c : Nat} {K : Option Addr → Nat → Nat → Ans} (h : At s b off (.slice A l c)) (hK : Ev (K A l c) Q) : Ev (ldSl s b off K) Q := by
  unfold At at h
  unfold Go.Proofs.YtckalckfihhldaaDoorF.ldSl
  rw [h]
  exact hK
theorem Ev.ldP {b off : Nat} {A : Option Addr} {K : Option Addr → Ans} (h : At s b off (.pointer A)) (hK : Ev (K A) Q) : Ev (ldP s b off K) Q := by
  unfold At at h
  unfold Go.Proofs.YtckalckfihhldaaDoorF.ldP
  rw [h]
  exact hK
/-- A store to a box. -/
theorem wr_box {b off : Nat} {e : TypeId} {cs vs : List Value} (hg : s.get b = some (.box e cs)) (h1 : off + vs.length ≤ cs.length) (h2 : vs.all oc = true) :
    ∃ s', s.wr b off vs = some s' ∧ s'.next = s.next ∧ s'.get b = some (.box e (writeAt cs off vs)) ∧ (∀ j, j ≠ b → s'.get j = s.get j) ∧ s'.lowb = min s.lowb b ∧ s'.low = min s.low b := by
  refine ⟨(s.put b (.box e (writeAt cs off vs))).wroteB b, ?_, rfl, ?_, fun j hj => ?_, rfl, rfl⟩
  · unfold St.wr
    rw [hg]
    simp [h1, h2]
  · rw [St.wroteB_get, St.get_put, if_pos rfl]
  · rw [St.wroteB_get, St.get_put, if_neg hj]
theorem Ev.sto {L1 L2 : List (Nat × AObj)} {b off : Nat} {e : TypeId} {cs vs : List Value} {K : St → Ans} (hC : Ctx n X s0 s (L1 ++ (b, .box e cs) :: L2)) (h1 : off + vs.length ≤ cs.length) (h2 : vs.all oc = true)
    (hK : ∀ s', Ctx n X s0 s' (L1 ++ (b, .box e (writeAt cs off vs)) :: L2) → Rk s s' → Ev (K s') Q) : Ev (sto s b off vs K) Q := by
  obtain ⟨s', a, b', c, d, lb, lw⟩ := wr_box (hC.obj (b, .box e cs) (by simp)).1 h1 h2
  unfold Go.Proofs.YtckalckfihhldaaDoorF.sto
  rw [a]
  refine hK s' (hC.set b' c d lb lw) ⟨by rw [b']; exact Nat.le_refl _, fun i r h1 h2 => ?_⟩
  rw [d i]
  · exact h2
  · rintro rfl
    rw [(hC.obj (i, .box e cs) (by simp)).1] at h2
    cases h2
theorem Ev.call {r : Ans} {P : Out → St → Prop} {K : Value → St → Ans} {Kp : List PanicEntry → St → Ans} (h : Ev r P) (hK : ∀ v s', P (.ret v) s' → Ev (K v s') Q) (hp : ∀ ch s', P (.pan ch) s' → Ev (Kp ch s') Q) : Ev (kcall r K Kp) Q := by
  obtain ⟨o, s', e, hP⟩ := h
  unfold kcall
  rw [e]
  cases o with
  | ret v => exact hK v s' hP
  | pan ch => exact hp ch s' hP
/-- It returns this value and leaves what was there. -/
def Rt (s : St) (v : Value) : Out → St → Prop := fun o s' => o = .ret v ∧ Keep s.next [] s s'
theorem Ev.callRt {r : Ans} {v : Value} {K : Value → St → Ans} {Kp : List PanicEntry → St → Ans} (hC : Ctx n X s0 s L) (h : Ev r (Rt s v)) (hK : ∀ s', Ctx n X s0 s' L → s.next ≤ s'.next → Ev (K v s') Q) : Ev (kcall r K Kp) Q :=
  Ev.call h (fun v' s' ⟨e, k⟩ => by injection e with e; subst e; exact hK s' (hC.call k) k.next) (fun ch s' ⟨e, _⟩ => by cases e)
theorem Rt.done {v : Value} {s' : St} (hC : Ctx s.next [] s s' L) : Rt s v (.ret v) s' := ⟨rfl, hC.keep⟩
end
end Go.Proofs.YtckalckfihhldaaDoorF
