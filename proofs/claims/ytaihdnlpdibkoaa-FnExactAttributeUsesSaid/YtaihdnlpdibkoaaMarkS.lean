/- Slices of structs with one element written anew. Plain: no program. -/
import Derived.Test.YtaihdnlpdibkoaaFrame
namespace Go.Proofs.Ytaihdnlpdibkoaa
set_option maxRecDepth 100000
open Go.RowKit

/-- Elements whose own cells and blocks stand as they stood, in a block that may have turned elsewhere. -/
theorem ElR.move {α : Type} {n : Nat} {R : CR α} (hR : Good n R) {w W : World} {b : Nat} (hz : w.heap.size ≤ W.heap.size) :
    ∀ {xs : List α} {off : Nat} {F : List Nat}, ElR n R w b off xs F → (∀ i, off ≤ i → i < off + xs.length * n → W.cell? ⟨b, i, none⟩ = w.cell? ⟨b, i, none⟩) → (∀ k ∈ F, W.heap[k]? = w.heap[k]?) → ElR n R W b off xs F
  | [], _, _, h, _, _ => h
  | x :: r, off, F, h, hc, hF => by
    obtain ⟨cs, F1, F2, rfl, h1, h2, h3⟩ := h
    have hl := hR.len h2
    rw [List.length_cons, Nat.add_mul] at hc
    refine ⟨cs, F1, F2, rfl, fun j u hu => ?_, hR.frame h2 (fun k hk => hF k (by simp [hk])) hz, ElR.move hR hz h3 (fun i h4 h5 => hc i (by omega) (by omega)) (fun k hk => hF k (by simp [hk]))⟩
    have hj := (List.getElem?_eq_some_iff.1 hu).1
    rw [hc (off + j) (by omega) (by omega)]
    exact h1 j u hu
/-- Element j written anew. -/
theorem ElR.set {α : Type} {n : Nat} {R : CR α} (hR : Good n R) {w W : World} {b off j : Nat} {xs : List α} {F1 Fk F2 : List Nat} {y : α} {vs : List Value} (hz : w.heap.size ≤ W.heap.size) (hj : j < xs.length)
    (h1 : ElR n R w b off (xs.take j) F1) (h2 : ElR n R w b (off + (j + 1) * n) (xs.drop (j + 1)) F2) (hy : R W y vs Fk) (hvs : CellsAt W b (off + j * n) vs)
    (hc : ∀ i, i < off + j * n ∨ off + (j + 1) * n ≤ i → W.cell? ⟨b, i, none⟩ = w.cell? ⟨b, i, none⟩) (hF1 : ∀ k ∈ F1, W.heap[k]? = w.heap[k]?) (hF2 : ∀ k ∈ F2, W.heap[k]? = w.heap[k]?) :
    ElR n R W b off (xs.take j ++ y :: xs.drop (j + 1)) (F1 ++ (Fk ++ F2)) := by
  have hl : (xs.take j).length = j := by simp; omega
  have g1 := ElR.move hR hz h1 (fun i h3 h4 => hc i (.inl (by rw [hl] at h4; exact h4))) hF1
  have g2 := ElR.move hR hz h2 (fun i h3 h4 => hc i (.inr h3)) hF2
  refine g1.append ?_
  rw [hl]
  refine ⟨vs, Fk, F2, rfl, hvs, hy, ?_⟩
  rw [show off + j * n + n = off + (j + 1) * n by rw [Nat.add_mul]; omega]
  exact g2
/-- From w to W: in block b the cells from o on hold vs, the others there are as they were; the blocks beside b and X stand; new blocks may have come. -/
structure PutG (w : World) (b o : Nat) (X : List Nat) (vs : List Value) (W : World) : Prop where
  blk : ∃ bs bs' t, w.heap[b]? = some (.cells bs t (0, 0)) ∧ W.heap[b]? = some (.cells bs' t (0, 0)) ∧ bs'.size = bs.size ∧ (∀ i, i < o ∨ o + vs.length ≤ i → bs'[i]? = bs[i]?) ∧ (∀ i u, vs[i]? = some u → bs'[o + i]? = some u)
  far : ∀ k, k < w.heap.size → k ≠ b → k ∉ X → W.heap[k]? = w.heap[k]?
  size : w.heap.size ≤ W.heap.size
  os : W.os = w.os
  tape : W.tape = w.tape
  output : W.output = w.output
theorem PutG.nil {w : World} {b o : Nat} {X : List Nat} {bs : Array Value} {t : TypeId} (h : w.heap[b]? = some (.cells bs t (0, 0))) : PutG w b o X [] w :=
  ⟨⟨bs, bs, t, h, h, rfl, fun _ _ => rfl, fun _ _ hu => by simp at hu⟩, fun _ _ _ _ => rfl, Nat.le_refl _, rfl, rfl, rfl⟩
theorem PutG.lt {w W : World} {b o : Nat} {X : List Nat} {vs : List Value} (h : PutG w b o X vs W) : b < w.heap.size := by
  obtain ⟨bs, bs', t, h1, _⟩ := h.blk
  exact blk_lt h1
theorem PutG.store {w W : World} {b o : Nat} {X : List Nat} {vs : List Value} (h : PutG w b o X vs W) (u : Value) {c : Value} (hc : W.cell? ⟨b, o + vs.length, none⟩ = some c) : PutG w b o X (vs ++ [u]) (W.setCell ⟨b, o + vs.length, none⟩ u) := by
  obtain ⟨⟨bs, bs', t, h1, h2, h3, h4, h5⟩, hf, hs, e1, e2, e3⟩ := h
  have hlt : o + vs.length < bs'.size := by
    rw [cell_of_row _ _ _ _ _ _ h2] at hc
    exact (Array.getElem?_eq_some_iff.1 hc).1
  refine ⟨⟨bs, bs'.setIfInBounds (o + vs.length) u, t, h1, heap_setCell_same W b _ bs' t u h2, by simpa using h3, fun i hi => ?_, fun i v hv => ?_⟩, fun k hk hb hX => (heap_setCell_other W _ k u (by simpa using hb)).trans (hf k hk hb hX), by simpa [World.setCell] using hs, e1, e2, e3⟩
  · rw [List.length_append, List.length_singleton] at hi
    rw [Array.getElem?_setIfInBounds, if_neg (by omega)]
    exact h4 i (by omega)
  · rw [Array.getElem?_setIfInBounds]
    by_cases hi : i = vs.length
    · subst hi
      rw [if_pos rfl, if_pos hlt]
      simpa using hv
    · have hil := (List.getElem?_eq_some_iff.1 hv).1
      rw [List.length_append, List.length_singleton] at hil
      rw [if_neg (by omega)]
      rw [List.getElem?_append_left (by omega)] at hv
      exact h5 i v hv
theorem PutG.below {w W W' : World} {b o : Nat} {X : List Nat} {vs : List Value} (h : PutG w b o X vs W) (hb : Below W.heap.size W W') : PutG w b o X vs W' := by
  have hlt := h.lt
  obtain ⟨⟨bs, bs', t, h1, h2, h3, h4, h5⟩, hf, hs, e1, e2, e3⟩ := h
  exact ⟨⟨bs, bs', t, h1, (hb.block b (blk_lt h2)).trans h2, h3, h4, h5⟩, fun k hk hkb hX => (hb.block k (by omega)).trans (hf k hk hkb hX), Nat.le_trans hs hb.size, hb.os.trans e1, hb.tape.trans e2, hb.output.trans e3⟩
theorem PutG.cell {w W : World} {b o : Nat} {X : List Nat} {vs : List Value} (h : PutG w b o X vs W) {i : Nat} {c : Value} (hi : i < o ∨ o + vs.length ≤ i) (hc : w.cell? ⟨b, i, none⟩ = some c) : W.cell? ⟨b, i, none⟩ = some c := by
  obtain ⟨bs, bs', t, h1, h2, h3, h4, h5⟩ := h.blk
  rw [cell_of_row _ _ _ _ _ _ h1] at hc
  rw [cell_of_row _ _ _ _ _ _ h2, h4 i hi]
  exact hc
theorem PutG.frozen {w W : World} {b o : Nat} {X : List Nat} {vs : List Value} (h : PutG w b o X vs W) (i : Nat) : W.frozen? ⟨b, i, none⟩ = false := by
  obtain ⟨bs, bs', t, h1, h2, _⟩ := h.blk
  exact frozen_of_row _ _ _ _ _ h2
theorem PutG.same {w W : World} {b o n : Nat} {X : List Nat} {vs : List Value} (h : PutG w b o X vs W) (hn : vs.length = n) : ∀ i, i < o ∨ o + n ≤ i → W.cell? ⟨b, i, none⟩ = w.cell? ⟨b, i, none⟩ := fun i hi => by
  obtain ⟨bs, bs', t, h1, h2, h3, h4, h5⟩ := h.blk
  rw [cell_of_row _ _ _ _ _ _ h2, cell_of_row _ _ _ _ _ _ h1, h4 i (by omega)]
theorem PutG.cellsAt {w W : World} {b o : Nat} {X : List Nat} {vs : List Value} (h : PutG w b o X vs W) : CellsAt W b o vs := fun j u hu => by
  obtain ⟨bs, bs', t, h1, h2, h3, h4, h5⟩ := h.blk
  rw [cell_of_row _ _ _ _ _ _ h2]
  exact h5 j u hu
theorem PutG.keep {w W : World} {b o : Nat} {X : List Nat} {vs : List Value} (h : PutG w b o X vs W) {u : Value} (hc : W.cell? ⟨b, o + vs.length, none⟩ = some u) : PutG w b o X (vs ++ [u]) W := by
  obtain ⟨⟨bs, bs', t, h1, h2, h3, h4, h5⟩, hf, hs, e1, e2, e3⟩ := h
  rw [cell_of_row _ _ _ _ _ _ h2] at hc
  refine ⟨⟨bs, bs', t, h1, h2, h3, fun i hi => h4 i (by rw [List.length_append, List.length_singleton] at hi; omega), fun i v hv => ?_⟩, hf, hs, e1, e2, e3⟩
  by_cases hi : i = vs.length
  · subst hi
    simp at hv
    subst hv
    exact hc
  · have hil := (List.getElem?_eq_some_iff.1 hv).1
    rw [List.length_append, List.length_singleton] at hil
    rw [List.getElem?_append_left (by omega)] at hv
    exact h5 i v hv
theorem PutG.freshX {w W : World} {b o C : Nat} {X : List Nat} {vs : List Value} {F : List Nat} (h : PutG w b o X vs W) (hf : Fresh C w F) (hX : ∀ k ∈ X, ∃ cs t, W.heap[k]? = some (.cells cs t (0, 0))) : Fresh C W F :=
  ⟨hf.nodup, hf.from_, fun k hk => by
    by_cases hkX : k ∈ X
    · exact hX k hkX
    by_cases hkb : k = b
    · subst hkb
      obtain ⟨bs, bs', t, _, h2, _⟩ := h.blk
      exact ⟨bs', t, h2⟩
    · rw [h.far k (hf.lt k hk) hkb hkX]
      exact hf.cells k hk⟩
theorem PutG.fresh {w W : World} {b o C : Nat} {vs : List Value} {F : List Nat} (h : PutG w b o [] vs W) (hf : Fresh C w F) : Fresh C W F :=
  ⟨hf.nodup, hf.from_, fun k hk => by
    by_cases hkb : k = b
    · subst hkb
      obtain ⟨bs, bs', t, _, h2, _⟩ := h.blk
      exact ⟨bs', t, h2⟩
    · rw [h.far k (hf.lt k hk) hkb (by simp)]
      exact hf.cells k hk⟩
end Go.Proofs.Ytaihdnlpdibkoaa
