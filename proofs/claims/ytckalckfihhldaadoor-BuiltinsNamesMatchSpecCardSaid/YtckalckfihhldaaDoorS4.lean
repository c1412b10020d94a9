/- A summary of a function that is not run and that writes: slices.Sort of strings. -/
import Derived.Test.YtckalckfihhldaaDoorS3
import Derived.Shelf.Sort.Plain
set_option linter.unusedVariables false
set_option linter.unusedSimpArgs false
namespace Go.Proofs.YtckalckfihhldaaDoorF
open Go Go.RowKit
/-- A store of several cells, where the world behind it is known otherwise. -/
theorem R.wrT {φ : Phi} {s : St} {w : World} {Own : Nat → Prop} (h : R φ s w Own) {i off : Nat} {l : Loc} {vs : List Value} {s' : St} (hi : φ i = some l) (hw : s.wr i off vs = some s') :
    ∃ e cs, Has φ w l e cs ∧ off + vs.length ≤ cs.length ∧ (vs.all oc) = true ∧ ∀ {w' : World}, Turned w w' l.block → Has φ w' l e (writeAt cs off vs) → R φ s' w' Own ∧ Fr w w' Own Own := by
  obtain ⟨o, h1, h2⟩ := h.obj i l hi
  unfold St.wr at hw
  rw [h1] at hw
  cases o with
  | row r =>
    dsimp only at hw
    split at hw
    · rename_i hc
      obtain ⟨hm, hf, hall⟩ := hc
      rw [ORel.own hm] at h2
      refine ⟨_, _, h2.2.2.2, hf, hall, fun {w'} ht hh => ?_⟩
      have hs := h.stir r.root
      split at hw
      · rename_i q hq
        injection hw with hw
        subst hw
        have hqr : q.mode = .own ∧ q.elem = r.elem ∧ q.root = r.root ∧ (q.root = i → q.stored = true) := by
          by_cases e : i = r.root
          · subst e
            unfold St.stir at hq
            rw [h1] at hq
            rw [St.get_put, if_pos rfl] at hq
            injection hq with hq
            injection hq with hq
            subst hq
            exact ⟨hm, rfl, rfl, fun _ => rfl⟩
          · rcases St.stir_get s r.root i with hg | ⟨q', hq', hg⟩
            · rw [hg, h1] at hq
              injection hq with hq
              injection hq with hq
              subst hq
              exact ⟨hm, rfl, rfl, fun e' => absurd e'.symm e⟩
            · rw [hg] at hq
              rw [h1] at hq'
              injection hq with hq
              injection hq with hq
              injection hq' with hq'
              injection hq' with hq'
              subst hq
              subst hq'
              exact ⟨hm, rfl, rfl, fun _ => rfl⟩
        have hp := hs.putRow hi hq hqr.1 (by rw [hqr.2.2.1]; exact St.stir_calm s r.root) ht (writeAt r.cs off vs) hqr.2.2.2 (by rw [hqr.2.1]; exact hh)
        exact ⟨hp.low _, ht.fr h2.1⟩
      · cases hw
    · cases hw
  | box e cs =>
    dsimp only at hw
    split at hw
    · rename_i hc
      injection hw with hw
      subst hw
      exact ⟨_, _, h2.2.2, hc.1, hc.2, fun {w'} ht hh => ⟨(h.put (o := .box e cs) (o' := .box e (writeAt cs off vs)) hi h1 (by simp) (by simp) rfl ht ⟨h2.1, h2.2.1, hh⟩).lows _ _, ht.fr h2.1⟩⟩
    · cases hw
  | map es => cases hw
  | siter t p => cases hw
section
open Go.Sort
theorem putRow_heap {w : World} {blk off : Nat} {d : Array (List UInt8)} {c : Array Value} {e : TypeId} {fr : Nat × Nat} (n : Nat) (h : w.heap[blk]? = some (.cells c e fr)) :
    (putRow encStr (Sort.ahead w n) blk off d).heap[blk]? = some (.cells (putCells encStr off d c) e fr) := by
  unfold putRow mapBlock
  simp [Array.getElem?_modify, Sort.ahead, h, onCells]
theorem putRow_turned (w : World) (blk off n : Nat) (d : Array (List UInt8)) : Turned w (putRow encStr (Sort.ahead w n) blk off d) blk := by
  refine ⟨rfl, rfl, rfl, by simp [Sort.ahead], fun k hk => ?_⟩
  unfold putRow mapBlock
  simp [Array.getElem?_modify, Sort.ahead, Ne.symm hk]
theorem has_sorted {φ : Phi} {w : World} {l : Loc} {e : TypeId} {cs : List Value} {off : Nat} {ys : List (List UInt8)} (h : Has φ w l e cs) (hf : off + ys.length ≤ cs.length) (n : Nat) :
    Has φ (putRow encStr (Sort.ahead w n) l.block (l.off + off) ys.toArray) l e (writeAt cs off (ys.map encStr)) := by
  obtain ⟨c, c1, c2, c3⟩ := h
  have hfit := c3.fits
  refine ⟨_, putRow_heap n c1, by simp [putCells]; exact c2, ⟨?_, fun i v hi => ?_⟩⟩
  · rw [writeAt_length (by simpa using hf)]
    simp [putCells]
    exact hfit
  · have hlt : i < cs.length := by
      have := (List.getElem?_eq_some_iff.1 hi).1
      rwa [writeAt_length (by simpa using hf)] at this
    unfold writeAt at hi
    simp only [List.getElem?_append, List.length_take, List.length_append, List.length_map] at hi
    have e1 : min off cs.length = off := by omega
    rw [e1] at hi
    unfold putCells
    rw [Array.getElem?_mapIdx]
    by_cases c4 : i < off
    · rw [if_pos (by omega), if_pos c4, List.getElem?_take, if_pos c4] at hi
      obtain ⟨v', p, q⟩ := c3.cell i v hi
      exact ⟨v', by rw [p, Option.map_some, if_neg (by omega)], q⟩
    · by_cases c5 : i < off + ys.length
      · rw [if_pos (by omega), if_neg c4, List.getElem?_map] at hi
        obtain ⟨v', p, q⟩ := c3.cell i (cs[i]) (List.getElem?_eq_getElem hlt)
        cases hy : ys[i - off]? with
        | none => rw [hy] at hi; cases hi
        | some y =>
          rw [hy] at hi
          injection hi with hi
          subst hi
          refine ⟨encStr y, ?_, .flat rfl⟩
          rw [p, Option.map_some, if_pos ⟨by omega, by simp; omega⟩]
          congr 1
          have : l.off + i - (l.off + off) = i - off := by omega
          rw [this]
          have hb : i - off < ys.length := by omega
          have hyy : ys[i - off] = y := by
            have := List.getElem?_eq_getElem hb
            rw [hy] at this
            injection this with this
            exact this.symm
          rw [getElem!_pos _ _ (by simpa using hb)]
          simp [hyy]
      · rw [if_neg (by omega), List.getElem?_drop] at hi
        obtain ⟨v', p, q⟩ := c3.cell i v (by rw [← hi]; congr 1; omega)
        exact ⟨v', by rw [p, Option.map_some, if_neg (by simp; omega)], q⟩
end
def sortL (xs : List ByteArray) : List ByteArray := ((xs.map fun b => b.data.toList).mergeSort fun x y => decide (x ≤ y)).map fun l => ⟨l.toArray⟩
def sumSort : List Value → St → Option (Out × St)
  | [.slice (some ⟨i, off, none⟩) n c], s => match (s.seen i off n).bind strsL with
    | some xs => if 0 < xs.length ∧ xs.length < 4611686018427387904 then (s.wr i off ((sortL xs).map Value.string)).map fun s' => (.ret (.tuple #[]), s') else none
    | none => none
  | _, _ => none
theorem sumSort_ok {P : Program} {f : FuncId} {glob : List Nat}
    (h : ∀ (blk off cap : Nat) (ss : List (List UInt8)) (w : World), Sort.Holds encStr w blk off ss.toArray → blk < w.heap.size → ss.length < 4611686018427387904 →
      Calls P f #[.slice (some ⟨blk, off, none⟩) ss.length cap] w fun e w' => e = .returned (.tuple #[]) ∧ ∃ n os, w' = Sort.grow (Sort.putRow encStr (Sort.ahead w n) blk off (ss.mergeSort fun x y => decide (x ≤ y)).toArray) os) :
    ∀ args s out s', sumSort args s = some (out, s') → Low s s' ∧ ∀ φ w Own (args' : Array Value), (∀ b ∈ glob, ∃ l, φ b = some l ∧ l.block = b ∧ l.off = 0) → R φ s w Own → VL φ args args'.toList →
      Calls P f args' w fun e w' => ∃ φ' Own', Phi.le φ φ' ∧ R φ' s' w' Own' ∧ Fr w w' Own Own' ∧ EndRel φ' out e := by
  intro args s out s' hv
  unfold sumSort at hv
  split at hv
  · rename_i i off n c
    split at hv
    · rename_i xs hxs
      split at hv
      · rename_i hc
        cases hwr : s.wr i off ((sortL xs).map Value.string) with
        | none => rw [hwr] at hv; cases hv
        | some s2 =>
          rw [hwr] at hv
          injection hv with hv
          injection hv with h1 h2
          subst h1
          subst h2
          refine ⟨St.wr_low hwr, fun φ w Own args' hg hR ha => ?_⟩
          obtain ⟨y, rfl, hy⟩ := ha.inv1
          cases hse : s.seen i off n with
          | none => rw [hse] at hxs; cases hxs
          | some l =>
            rw [hse] at hxs
            have hl := strsL_spec hxs
            subst hl
            have hlen : xs.length = n := by
              rcases hy.slice_inv with ⟨lc, _, hlc, _⟩ | ⟨lc, _, hlc, _⟩ <;> simpa using (hR.seen hlc hse).1
            rcases hy.slice_inv with ⟨lc, c', hlc, h1, h2, _, ha⟩ | ⟨lc, b, hlc, hn, _, ha⟩
            · obtain ⟨-, l', k1, k2⟩ := hR.seen hlc hse
              have hl' : l' = xs.map Value.string := k1.flat_eq (by intro v hv; obtain ⟨n, _, rfl⟩ := List.mem_map.1 hv; rfl)
              subst hl'
              obtain ⟨e, cs, q1, q2, q3, q4⟩ := hR.wrT hlc hwr
              have hys : (sortL xs).map Value.string = ((xs.map fun b => b.data.toList).mergeSort fun x y => decide (x ≤ y)).map encStr := by
                unfold sortL
                rw [List.map_map]
                rfl
              have hyl : ((xs.map fun b => b.data.toList).mergeSort fun x y => decide (x ≤ y)).length = xs.length := by rw [List.length_mergeSort, List.length_map]
              rw [hys, List.length_map, hyl] at q2
              rw [hys] at q4
              obtain ⟨cc, m1, m2, m3⟩ := q1
              have ho : Sort.Holds encStr w lc.block (lc.off + off) (xs.map fun b => b.data.toList).toArray := fun j hj => by
                have hj' : j < xs.length := by simpa using hj
                have := k2 j (.string xs[j]) (by rw [List.getElem?_map, List.getElem?_eq_getElem hj']; rfl)
                rw [add_plain] at this
                refine ⟨?_, ?_⟩
                · rw [this]
                  rw [getElem!_pos _ _ (by simpa using hj')]
                  simp [encStr]
                · unfold World.frozen?
                  simp [m1]
              rw [ha, ← hlen]
              have := h lc.block (lc.off + off) c' (xs.map fun b => b.data.toList) w ho (hR.lt i lc hlc) (by simpa using hc.2)
              rw [List.length_map] at this
              refine this.mono ?_
              rintro e w' ⟨rfl, q, os, rfl⟩
              obtain ⟨r1, r2⟩ := q4 (putRow_turned w lc.block (lc.off + off) q _) (has_sorted ⟨cc, m1, m2, m3⟩ (by rw [hyl]; exact q2) q)
              refine ⟨φ, Own, Phi.le_refl _, r1.world (by simp) (fun k hk => by simp [Sort.grow, Array.getElem?_append_left hk]), ⟨r2.os, r2.tape, r2.output, by simp, fun k hk ho => ?_, r2.own⟩, _, rfl, V.tup (l := []) rfl⟩
              have hk2 : k < (Sort.putRow encStr (Sort.ahead w q) lc.block (lc.off + off) ((xs.map fun b => b.data.toList).mergeSort fun x y => decide (x ≤ y)).toArray).heap.size := Nat.lt_of_lt_of_le hk r2.size
              rw [← r2.keep k hk ho]
              simp [Sort.grow, Array.getElem?_append_left hk2]
            · omega
      · cases hv
    · cases hv
  · cases hv
end Go.Proofs.YtckalckfihhldaaDoorF
