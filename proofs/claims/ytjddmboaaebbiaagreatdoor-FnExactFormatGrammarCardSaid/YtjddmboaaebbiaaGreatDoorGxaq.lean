/- Several texts of one proof in one file: Slices of structs with one element written anew. Plain: no program. Occurrences overwritten by marks, and held against them. Expressions overwritten by marks. Attributes and symbols overwritten by marks, and held against them. Equations and contributions overwritten by marks, and held against them. Grammars: how one lies in memory; sizes, copies, comparisons. Rules and grammars overwritten by marks, and held against them. What the walks of laws with marks share: facts behind a marking call; how many marks a thing takes, against its size. Plain: no program. The last step of a row that lists variables of the program: they stay as they were. Grammars as text: what the text is; a join of all lines is the lines with their ends. Plain: no program. Conditions: each theorem names its own. -/
import Derived.Test.YtjddmboaaebbiaaGreatDoorGxaa
import Derived.Test.YtjddmboaaebbiaaGreatDoorGxah
import Derived.Test.YtjddmboaaebbiaaGreatDoorGxaf
import Derived.ChangeBook
import Derived.Test.YtjddmboaaebbiaaGreatDoorGxak

/- Slices of structs with one element written anew. Plain: no program. -/
namespace Go.Proofs.YtjddmboaaebbiaaGreatDoor
set_option linter.unusedSimpArgs false
set_option linter.unusedVariables false
set_option maxRecDepth 100000
open Go.RowKit

/-- Elements whose own cells and blocks stand as they stood, in a block that may have turned elsewhere. -/
theorem ElR.move {α : Type} {n : Nat} {R : CR α} (hR : Good n R) {w W : World} {b : Nat} (hz : w.heap.size ≤ W.heap.size) :
    ∀ {xs : List α} {off : Nat} {F : List Nat}, ElR n R w b off xs F → (∀ i, off ≤ i → i < off + xs.length * n → W.cell? ⟨b, i, none⟩ = w.cell? ⟨b, i, none⟩) → (∀ k ∈ F, W.heap[k]? = w.heap[k]?) → ElR n R W b off xs F
  | [], _, _, h, _, _ => h
  | x :: r, off, F, h, hc, hF => by
    obtain ⟨cs, F1, F2, rfl, h1, h2, h3⟩ := h
    have hl := hR.len h2
    rw [List.length_cons, Nat.add_mul] at hc
    refine ⟨cs, F1, F2, rfl, fun j u hu => ?_, hR.frame h2 (fun k hk => hF k (by simp [hk])) hz, ElR.move hR hz h3 (fun i h4 h5 => hc i (by omega) (by omega)) (fun k hk => hF k (by simp [hk]))⟩
    have hj := (List.getElem?_eq_some_iff.1 hu).1
    rw [hc (off + j) (by omega) (by omega)]
    exact h1 j u hu
/-- Element j written anew. -/
theorem ElR.set {α : Type} {n : Nat} {R : CR α} (hR : Good n R) {w W : World} {b off j : Nat} {xs : List α} {F1 Fk F2 : List Nat} {y : α} {vs : List Value} (hz : w.heap.size ≤ W.heap.size) (hj : j < xs.length)
    (h1 : ElR n R w b off (xs.take j) F1) (h2 : ElR n R w b (off + (j + 1) * n) (xs.drop (j + 1)) F2) (hy : R W y vs Fk) (hvs : CellsAt W b (off + j * n) vs)
    (hc : ∀ i, i < off + j * n ∨ off + (j + 1) * n ≤ i → W.cell? ⟨b, i, none⟩ = w.cell? ⟨b, i, none⟩) (hF1 : ∀ k ∈ F1, W.heap[k]? = w.heap[k]?) (hF2 : ∀ k ∈ F2, W.heap[k]? = w.heap[k]?) :
    ElR n R W b off (xs.take j ++ y :: xs.drop (j + 1)) (F1 ++ (Fk ++ F2)) := by
  have hl : (xs.take j).length = j := by simp; omega
  have g1 := ElR.move hR hz h1 (fun i h3 h4 => hc i (.inl (by rw [hl] at h4; exact h4))) hF1
  have g2 := ElR.move hR hz h2 (fun i h3 h4 => hc i (.inr h3)) hF2
  refine g1.append ?_
  rw [hl]
  refine ⟨vs, Fk, F2, rfl, hvs, hy, ?_⟩
  rw [show off + j * n + n = off + (j + 1) * n by rw [Nat.add_mul]; omega]
  exact g2
/-- From w to W: in block b the cells from o on hold vs, the others there are as they were; the blocks beside b and X stand; new blocks may have come. -/
structure PutG (w : World) (b o : Nat) (X : List Nat) (vs : List Value) (W : World) : Prop where
  blk : ∃ bs bs' t, w.heap[b]? = some (.cells bs t (0, 0)) ∧ W.heap[b]? = some (.cells bs' t (0, 0)) ∧ bs'.size = bs.size ∧ (∀ i, i < o ∨ o + vs.length ≤ i → bs'[i]? = bs[i]?) ∧ (∀ i u, vs[i]? = some u → bs'[o + i]? = some u)
  far : ∀ k, k < w.heap.size → k ≠ b → k ∉ X → W.heap[k]? = w.heap[k]?
  size : w.heap.size ≤ W.heap.size
  os : W.os = w.os
  tape : W.tape = w.tape
  output : W.output = w.output
theorem PutG.nil {w : World} {b o : Nat} {X : List Nat} {bs : Array Value} {t : TypeId} (h : w.heap[b]? = some (.cells bs t (0, 0))) : PutG w b o X [] w :=
  ⟨⟨bs, bs, t, h, h, rfl, fun _ _ => rfl, fun _ _ hu => by simp at hu⟩, fun _ _ _ _ => rfl, Nat.le_refl _, rfl, rfl, rfl⟩
theorem PutG.lt {w W : World} {b o : Nat} {X : List Nat} {vs : List Value} (h : PutG w b o X vs W) : b < w.heap.size := by
  obtain ⟨bs, bs', t, h1, _⟩ := h.blk
  exact blk_lt h1
theorem PutG.store {w W : World} {b o : Nat} {X : List Nat} {vs : List Value} (h : PutG w b o X vs W) (u : Value) {c : Value} (hc : W.cell? ⟨b, o + vs.length, none⟩ = some c) : PutG w b o X (vs ++ [u]) (W.setCell ⟨b, o + vs.length, none⟩ u) := by
  obtain ⟨⟨bs, bs', t, h1, h2, h3, h4, h5⟩, hf, hs, e1, e2, e3⟩ := h
  have hlt : o + vs.length < bs'.size := by
    rw [cell_of_row _ _ _ _ _ _ h2] at hc
    exact (Array.getElem?_eq_some_iff.1 hc).1
  refine ⟨⟨bs, bs'.setIfInBounds (o + vs.length) u, t, h1, heap_setCell_same W b _ bs' t u h2, by simpa using h3, fun i hi => ?_, fun i v hv => ?_⟩, fun k hk hb hX => (heap_setCell_other W _ k u (by simpa using hb)).trans (hf k hk hb hX), by simpa [World.setCell] using hs, e1, e2, e3⟩
  · rw [List.length_append, List.length_singleton] at hi
    rw [Array.getElem?_setIfInBounds, if_neg (by omega)]
    exact h4 i (by omega)
  · rw [Array.getElem?_setIfInBounds]
    by_cases hi : i = vs.length
    · subst hi
      rw [if_pos rfl, if_pos hlt]
      simpa using hv
    · have hil := (List.getElem?_eq_some_iff.1 hv).1
      rw [List.length_append, List.length_singleton] at hil
      rw [if_neg (by omega)]
      rw [List.getElem?_append_left (by omega)] at hv
      exact h5 i v hv
theorem PutG.below {w W W' : World} {b o : Nat} {X : List Nat} {vs : List Value} (h : PutG w b o X vs W) (hb : Below W.heap.size W W') : PutG w b o X vs W' := by
  have hlt := h.lt
  obtain ⟨⟨bs, bs', t, h1, h2, h3, h4, h5⟩, hf, hs, e1, e2, e3⟩ := h
  exact ⟨⟨bs, bs', t, h1, (hb.block b (blk_lt h2)).trans h2, h3, h4, h5⟩, fun k hk hkb hX => (hb.block k (by omega)).trans (hf k hk hkb hX), Nat.le_trans hs hb.size, hb.os.trans e1, hb.tape.trans e2, hb.output.trans e3⟩
theorem PutG.cell {w W : World} {b o : Nat} {X : List Nat} {vs : List Value} (h : PutG w b o X vs W) {i : Nat} {c : Value} (hi : i < o ∨ o + vs.length ≤ i) (hc : w.cell? ⟨b, i, none⟩ = some c) : W.cell? ⟨b, i, none⟩ = some c := by
  obtain ⟨bs, bs', t, h1, h2, h3, h4, h5⟩ := h.blk
  rw [cell_of_row _ _ _ _ _ _ h1] at hc
  rw [cell_of_row _ _ _ _ _ _ h2, h4 i hi]
  exact hc
theorem PutG.frozen {w W : World} {b o : Nat} {X : List Nat} {vs : List Value} (h : PutG w b o X vs W) (i : Nat) : W.frozen? ⟨b, i, none⟩ = false := by
  obtain ⟨bs, bs', t, h1, h2, _⟩ := h.blk
  exact frozen_of_row _ _ _ _ _ h2
theorem PutG.same {w W : World} {b o n : Nat} {X : List Nat} {vs : List Value} (h : PutG w b o X vs W) (hn : vs.length = n) : ∀ i, i < o ∨ o + n ≤ i → W.cell? ⟨b, i, none⟩ = w.cell? ⟨b, i, none⟩ := fun i hi => by
  obtain ⟨bs, bs', t, h1, h2, h3, h4, h5⟩ := h.blk
  rw [cell_of_row _ _ _ _ _ _ h2, cell_of_row _ _ _ _ _ _ h1, h4 i (by omega)]
theorem PutG.cellsAt {w W : World} {b o : Nat} {X : List Nat} {vs : List Value} (h : PutG w b o X vs W) : CellsAt W b o vs := fun j u hu => by
  obtain ⟨bs, bs', t, h1, h2, h3, h4, h5⟩ := h.blk
  rw [cell_of_row _ _ _ _ _ _ h2]
  exact h5 j u hu
theorem PutG.keep {w W : World} {b o : Nat} {X : List Nat} {vs : List Value} (h : PutG w b o X vs W) {u : Value} (hc : W.cell? ⟨b, o + vs.length, none⟩ = some u) : PutG w b o X (vs ++ [u]) W := by
  obtain ⟨⟨bs, bs', t, h1, h2, h3, h4, h5⟩, hf, hs, e1, e2, e3⟩ := h
  rw [cell_of_row _ _ _ _ _ _ h2] at hc
  refine ⟨⟨bs, bs', t, h1, h2, h3, fun i hi => h4 i (by rw [List.length_append, List.length_singleton] at hi; omega), fun i v hv => ?_⟩, hf, hs, e1, e2, e3⟩
  by_cases hi : i = vs.length
  · subst hi
    simp at hv
    subst hv
    exact hc
  · have hil := (List.getElem?_eq_some_iff.1 hv).1
    rw [List.length_append, List.length_singleton] at hil
    rw [List.getElem?_append_left (by omega)] at hv
    exact h5 i v hv
theorem PutG.freshX {w W : World} {b o C : Nat} {X : List Nat} {vs : List Value} {F : List Nat} (h : PutG w b o X vs W) (hf : Fresh C w F) (hX : ∀ k ∈ X, ∃ cs t, W.heap[k]? = some (.cells cs t (0, 0))) : Fresh C W F :=
  ⟨hf.nodup, hf.from_, fun k hk => by
    by_cases hkX : k ∈ X
    · exact hX k hkX
    by_cases hkb : k = b
    · subst hkb
      obtain ⟨bs, bs', t, _, h2, _⟩ := h.blk
      exact ⟨bs', t, h2⟩
    · rw [h.far k (hf.lt k hk) hkb hkX]
      exact hf.cells k hk⟩
theorem PutG.fresh {w W : World} {b o C : Nat} {vs : List Value} {F : List Nat} (h : PutG w b o [] vs W) (hf : Fresh C w F) : Fresh C W F :=
  ⟨hf.nodup, hf.from_, fun k hk => by
    by_cases hkb : k = b
    · subst hkb
      obtain ⟨bs, bs', t, _, h2, _⟩ := h.blk
      exact ⟨bs', t, h2⟩
    · rw [h.far k (hf.lt k hk) hkb (by simp)]
      exact hf.cells k hk⟩
end Go.Proofs.YtjddmboaaebbiaaGreatDoor

/- Occurrences overwritten by marks, and held against them. Conditions: numbers from 1 to 2^40. -/
namespace Go.Proofs.YtjddmboaaebbiaaGreatDoor
set_option linter.unusedSimpArgs false
set_option linter.unusedVariables false
set_option maxRecDepth 100000
open Go.RowKit Go.WideShapes
set_option linter.unusedVariables false

/-- A list written anew, each element by the numbers from its own on. -/
def mkL {α : Type} (mk : Nat → α → α) (ct : α → Nat) : Nat → List α → List α
  | _, [] => []
  | k, x :: r => mk k x :: mkL mk ct (k + ct x) r
def ctL {α : Type} (ct : α → Nat) : List α → Nat
  | [] => 0
  | x :: r => ct x + ctL ct r
theorem mkL_len {α : Type} {mk : Nat → α → α} {ct : α → Nat} : ∀ (xs : List α) (k : Nat), (mkL mk ct k xs).length = xs.length
  | [], _ => rfl
  | x :: r, k => by simp only [mkL, List.length_cons, mkL_len r]
theorem mkL_append {α : Type} {mk : Nat → α → α} {ct : α → Nat} : ∀ (xs ys : List α) (k : Nat), mkL mk ct k (xs ++ ys) = mkL mk ct k xs ++ mkL mk ct (k + ctL ct xs) ys
  | [], _, _ => rfl
  | x :: r, ys, k => by simp only [List.cons_append, mkL, ctL, mkL_append r, Nat.add_assoc]
theorem ctL_append {α : Type} {ct : α → Nat} : ∀ (xs ys : List α), ctL ct (xs ++ ys) = ctL ct xs + ctL ct ys
  | [], ys => by simp [ctL]
  | x :: r, ys => by simp only [List.cons_append, ctL, ctL_append r, Nat.add_assoc]
theorem ctL_take {α : Type} {ct : α → Nat} {xs : List α} {j : Nat} {x : α} (h : xs[j]? = some x) : ctL ct (xs.take (j + 1)) = ctL ct (xs.take j) + ct x := by rw [take_snoc h, ctL_append]; simp [ctL]
theorem mkL_take {α : Type} {mk : Nat → α → α} {ct : α → Nat} {xs : List α} {k j : Nat} {x : α} (h : xs[j]? = some x) : mkL mk ct k (xs.take (j + 1)) = mkL mk ct k (xs.take j) ++ [mk (k + ctL ct (xs.take j)) x] := by rw [take_snoc h, mkL_append]; rfl
theorem ctL_take_le {α : Type} {ct : α → Nat} (xs : List α) (j : Nat) : ctL ct (xs.take j) ≤ ctL ct xs := by
  have := ctL_append (ct := ct) (xs.take j) (xs.drop j)
  rw [List.take_append_drop] at this
  omega
/-- The list half written. -/
theorem half_at {α : Type} {mk : Nat → α → α} {ct : α → Nat} {xs : List α} {k j : Nat} {x : α} (h : xs[j]? = some x) : (mkL mk ct k (xs.take j) ++ xs.drop j)[j]? = some x := by
  have hj := (List.getElem?_eq_some_iff.1 h).1
  have hl : (mkL mk ct k (xs.take j)).length = j := by rw [mkL_len]; simp; omega
  rw [List.getElem?_append_right (by omega), hl, Nat.sub_self, List.getElem?_drop, Nat.add_zero, h]
theorem half_next {α : Type} {mk : Nat → α → α} {ct : α → Nat} {xs : List α} {k j : Nat} {x : α} (h : xs[j]? = some x) :
    (mkL mk ct k (xs.take j) ++ xs.drop j).take j ++ mk (k + ctL ct (xs.take j)) x :: (mkL mk ct k (xs.take j) ++ xs.drop j).drop (j + 1) = mkL mk ct k (xs.take (j + 1)) ++ xs.drop (j + 1) := by
  have hj := (List.getElem?_eq_some_iff.1 h).1
  have hl : (mkL mk ct k (xs.take j)).length = j := by rw [mkL_len]; simp; omega
  rw [mkL_take h]
  generalize mkL mk ct k (xs.take j) = m at hl
  subst hl
  simp
def mk_Occ (k : Nat) (_x : Occ) : Occ := ⟨(k : Int), mkT (k + 1)⟩
def ct_Occ (_x : Occ) : Nat := 2
theorem PutG.apart {w W W' : World} {b o : Nat} {X G : List Nat} {vs : List Value} (h : PutG w b o X vs W) (ha : Apart G W W') (hb : b ∉ G) (hG : ∀ k ∈ G, k ∈ X) : PutG w b o X vs W' := by
  obtain ⟨⟨bs, bs', t, h1, h2, h3, h4, h5⟩, hf, hs, e1, e2, e3⟩ := h
  exact ⟨⟨bs, bs', t, h1, (ha.block b (blk_lt h2) hb).trans h2, h3, h4, h5⟩, fun k hk hkb hX => (ha.block k (by omega) (fun hm => hX (hG k hm))).trans (hf k hk hkb hX), Nat.le_trans hs ha.size, ha.os.trans e1, ha.tape.trans e2, ha.output.trans e3⟩
theorem half_len {α : Type} {mk : Nat → α → α} {ct : α → Nat} {xs : List α} {k j : Nat} (h : j ≤ xs.length) : (mkL mk ct k (xs.take j) ++ xs.drop j).length = xs.length := by
  rw [List.length_append, mkL_len, List.length_take, List.length_drop]
  omega
theorem OccR.mk (D : Nat) (W : World) (k : Nat) (x : Occ) (hk : k + 1 ≤ 1099511627776) : OccR D W (mk_Occ k x) [.int .i64 (k : Int), .string (mkT (k + 1))] [] :=
  ⟨rfl, ⟨by simp [mk_Occ, Lit.wf, IntKind.min, IntKind.max, IntKind.signed, IntKind.bits]; omega, mkT_small hk⟩, rfl, rfl, rfl⟩
theorem mkL_at {α : Type} {mk : Nat → α → α} {ct : α → Nat} {xs : List α} {k j : Nat} {x : α} (h : xs[j]? = some x) : (mkL mk ct k xs)[j]? = some (mk (k + ctL ct (xs.take j)) x) := by
  have hj := (List.getElem?_eq_some_iff.1 h).1
  have h1 := mkL_append (mk := mk) (ct := ct) (xs.take j) (xs.drop j) k
  rw [List.take_append_drop] at h1
  have hl : (mkL mk ct k (xs.take j)).length = j := by rw [mkL_len]; simp; omega
  have hd : xs.drop j = x :: xs.drop (j + 1) := by
    rw [List.drop_eq_getElem_cons hj]
    rw [List.getElem?_eq_getElem hj] at h
    rw [Option.some.inj h]
  rw [h1, List.getElem?_append_right (by omega), hl, Nat.sub_self, hd]
  rfl
end Go.Proofs.YtjddmboaaebbiaaGreatDoor

/- Expressions overwritten by marks. Conditions: numbers from 1 to 2^40. -/
namespace Go.Proofs.YtjddmboaaebbiaaGreatDoor
set_option linter.unusedSimpArgs false
set_option linter.unusedVariables false
set_option maxRecDepth 100000
open Go.RowKit Go.WideShapes
set_option linter.unusedVariables false

def ctE0 : Nat → Ex → Nat
  | 0, _ => 0
  | d + 1, e => 6 + ctL (ctE0 d) e.args
def mkE : Nat → Nat → Ex → Ex
  | 0, _, e => e
  | d + 1, k, e => .mk ⟨(k : Int), (k : Int) + 1, (k : Int) + 1 + 1, (k : Int) + 1 + 1 + 1, mkT (k + 1 + 1 + 1 + 1), mkT (k + 1 + 1 + 1 + 1 + 1)⟩ (mkL (mkE d) (ctE0 d) (k + 1 + 1 + 1 + 1 + 1 + 1) e.args)
def MsE (d : Nat) : Prop := ∀ (C k : Nat) (xs : List Ex) (v : Value) (F : List Nat) (w : World), SlR 7 (ExR d) w xs v F → Fresh C w F → 1 ≤ k → k + ctL (ctE0 d) xs ≤ 1099511627776 →
  Calls Tryz.prog 64 #[v, .int .i64 k] w fun en w' => en = .returned (.int .i64 ((k + ctL (ctE0 d) xs : Nat) : Int)) ∧ SlR 7 (ExR d) w' (mkL (mkE d) (ctE0 d) k xs) v F ∧ Fresh C w' F ∧ Apart F w w'
theorem wf_int {z : Int} (h0 : 0 ≤ z) (h1 : z ≤ 1099511627776) : (Lit.int .i64 z).wf = true := by simp [Lit.wf, IntKind.min, IntKind.max, IntKind.signed, IntKind.bits]; omega
theorem mkE_ok {d k : Nat} {x : Ex} (hk : k + 6 ≤ 1099511627776) : (mkE (d + 1) k x).h.ok :=
  ⟨wf_int (z := (k : Int)) (by omega) (by omega), wf_int (z := (k : Int) + 1) (by omega) (by omega), wf_int (z := (k : Int) + 1 + 1) (by omega) (by omega), wf_int (z := (k : Int) + 1 + 1 + 1) (by omega) (by omega), mkT_small (k := k + 1 + 1 + 1 + 1) (by omega), mkT_small (k := k + 1 + 1 + 1 + 1 + 1) (by omega)⟩
theorem Fresh.mid {C b : Nat} {w : World} {F1 Fk F2 : List Nat} (h : Fresh C w (b :: (F1 ++ (Fk ++ F2)))) : Fresh C w Fk := by
  refine ⟨?_, fun k hk => h.from_ k (by simp [hk]), fun k hk => h.cells k (by simp [hk])⟩
  have h1 := (List.nodup_cons.1 h.nodup).2
  have h2 := (List.nodup_append.1 h1).2.1
  exact (List.nodup_append.1 h2).1
theorem PutG.weak {w W : World} {b o : Nat} {X : List Nat} {vs : List Value} (h : PutG w b o [] vs W) : PutG w b o X vs W :=
  ⟨h.blk, fun k hk hb _ => h.far k hk hb (by simp), h.size, h.os, h.tape, h.output⟩
theorem nodup_mid {b : Nat} {F1 Fk F2 : List Nat} (h : (b :: (F1 ++ (Fk ++ F2))).Nodup) : (∀ k ∈ F1, k ≠ b ∧ k ∉ Fk) ∧ (∀ k ∈ F2, k ≠ b ∧ k ∉ Fk) := by
  obtain ⟨hb, h1⟩ := List.nodup_cons.1 h
  obtain ⟨_, h2, h3⟩ := List.nodup_append.1 h1
  obtain ⟨_, _, h4⟩ := List.nodup_append.1 h2
  exact ⟨fun k hk => ⟨fun e => hb (by simp [← e, hk]), fun hm => h3 k hk k (by simp [hm]) rfl⟩, fun k hk => ⟨fun e => hb (by simp [← e, hk]), fun hm => h4 k hm k hk rfl⟩⟩
theorem wf_nat {k : Nat} (hk : k ≤ 1099511627776) : (Lit.int .i64 (k : Int)).wf = true := by simp [Lit.wf, IntKind.min, IntKind.max, IntKind.signed, IntKind.bits]; omega
set_option maxRecDepth 100000 in
set_option maxHeartbeats 4000000 in
theorem ms_loop (d : Nat) (HE : ∀ d', d = d' + 1 → MsE d') : MsE d := by
  intro C k xs v F w hs hf hk hkn
  obtain ⟨A, cap, rfl, hlc, hm, hsl⟩ := hs
  rcases hsl with ⟨rfl, rfl⟩ | ⟨b, off, F', rfl, hb, rfl, he⟩
  · go_enter Tryz.func64, Tryz.ntmps64
    go_wp2_with fail
    go_loop [1, 5] (fun kv i => kv = .int .i64 k ∧ i = .int .i64 0) (fun _ _ => 0)
    case atStart => exact ⟨rfl, rfl⟩
    case round =>
      obtain ⟨rfl, rfl⟩ := hrel
      go_wp2_with fail
      go_ret
      exact ⟨rfl, ⟨A, cap, rfl, hlc, hm, .inl ⟨rfl, rfl⟩⟩, hf, Apart.refl _ _⟩
  have HE := hide HE
  have Hf := hide hf
  have hmm := hm
  unfold maxLen at hmm
  have hlm : xs.length ≤ 9223372036854775807 := by omega
  have Hm := hide (And.intro hlc hm)
  have He := hide he
  have Hct := hide (fun j => ctL_take_le (ct := ctE0 d) xs j)
  have Htl : Hid (xs.take xs.length = xs) := hide List.take_length
  clear hf he hlc hm hmm
  go_enter Tryz.func64, Tryz.ntmps64
  go_wp2_with fail
  go_loopw [1, 5] (fun kv i wr => ∃ j : Nat, j ≤ xs.length ∧ i = .int .i64 j ∧ kv = .int .i64 ((k + ctL (ctE0 d) (xs.take j) : Nat) : Int) ∧ Hid (ElR 7 (ExR d) wr b off (mkL (mkE d) (ctE0 d) k (xs.take j) ++ xs.drop j) F') ∧ Hid (Fresh C wr (b :: F')) ∧ Hid (Apart (b :: F') w wr)) (fun _ i _ => xs.length - (intOf i).toNat)
  case atStart => exact ⟨0, by omega, rfl, rfl, hide (by simpa [mkL] using He.out), Hf, hide (Apart.refl _ _)⟩
  case round =>
    obtain ⟨j, hj, rfl, rfl, Hel, Hfr, Ha⟩ := hrel
    by_cases hlt : j < xs.length
    · have hx : xs[j]? = some xs[j] := List.getElem?_eq_getElem hlt
      generalize xs[j] = x at hx
      have Hx := hide hx
      have hstep := Hct.out (j + 1)
      rw [ctL_take hx] at hstep
      obtain ⟨cs, F1, Fk, F2, hFeq, hcat, hR, g1, g2⟩ := ElR.get (ExR.good d) Hel.out (half_at (mk := mkE d) (ct := ctE0 d) (k := k) hx)
      obtain ⟨d', rfl⟩ : ∃ d', d = d' + 1 := by
        match d, hR with
        | d' + 1, _ => exact ⟨d', rfl⟩
      obtain ⟨va, rfl, _, hsa⟩ := hR
      have hct : ctE0 (d' + 1) x = 6 + ctL (ctE0 d') x.args := rfl
      rw [hct] at hstep
      have hcnt : Hid (ctL (ctE0 (d' + 1)) (xs.take (j + 1)) = ctL (ctE0 (d' + 1)) (xs.take j) + (6 + ctL (ctE0 d') x.args)) := hide (ctL_take hx)
      obtain ⟨A2, cap2, rfl, _, _⟩ := hsa.form
      obtain ⟨bs, t, hblk⟩ := Hfr.out.cells b (by simp)
      have hP0 : PutG wr b (off + j * 7) [] [] wr := PutG.nil hblk
      obtain ⟨e0, e1, e2, e3, e4, e5, e6⟩ := hcat.seven
      have f0 := hP0.frozen (off + j * 7)
      have f1 := hP0.frozen (off + j * 7 + 1)
      have f2 := hP0.frozen (off + j * 7 + 2)
      have f3 := hP0.frozen (off + j * 7 + 3)
      have hj0 : (0 : Int) ≤ (j : Int) := by omega
      have hj1 : (j : Int) < (xs.length : Int) := by omega
      have Hg1 := hide g1
      have Hg2 := hide g2
      have HFeq := hide hFeq
      have HP0 := hide hP0
      have Hsa := hide hsa
      have HME := hide (HE.out d' rfl)
      have He0 := hide e0
      have He1 := hide e1
      have He2 := hide e2
      have He3 := hide e3
      have He4 := hide e4
      have He5 := hide e5
      have He6 := hide e6
      generalize hkq : k + ctL (ctE0 (d' + 1)) (xs.take j) = q at hstep ⊢
      have Hkq := hide hkq
      have hq1 : 1 ≤ q := by omega
      have hq2 : q + (6 + ctL (ctE0 d') x.args) ≤ 1099511627776 := by omega
      clear hx hcat hblk g1 g2 hFeq hP0 hkq hstep hct hsa e4 e5 e6 HE
      go_wp2_with fail
      have hP1 := HP0.out.store (.int .i64 (q : Int)) He0.out
      have hP2 := hP1.store (.int .i64 ((q : Int) + 1)) (hP1.cell (i := off + j * 7 + 1) (by simp) He1.out)
      have hP3 := hP2.store (.int .i64 ((q : Int) + 1 + 1)) (hP2.cell (i := off + j * 7 + 2) (by simp) He2.out)
      have hP4 := hP3.store (.int .i64 ((q : Int) + 1 + 1 + 1)) (hP3.cell (i := off + j * 7 + 3) (by simp) He3.out)
      simp only [List.length_nil, List.length_cons, Nat.zero_add, Nat.add_zero, List.nil_append, List.cons_append, Nat.reduceAdd] at hP4
      generalize (((wr.setCell ⟨b, off + j * 7, none⟩ (.int .i64 (q : Int))).setCell ⟨b, off + j * 7 + 1, none⟩ (.int .i64 ((q : Int) + 1))).setCell ⟨b, off + j * 7 + 2, none⟩ (.int .i64 ((q : Int) + 1 + 1))).setCell ⟨b, off + j * 7 + 3, none⟩ (.int .i64 ((q : Int) + 1 + 1 + 1)) = W1 at hP4 ⊢
      refine (l_markText (q + 1 + 1 + 1 + 1) (by omega) (by omega) _).mono ?_
      rintro e w2 ⟨rfl, hb2⟩
      have hP5 := hP4.below hb2
      have e4 : w2.cell? ⟨b, off + j * 7 + 4, none⟩ = some (.string x.h.symbol) := hP5.cell (by simp) He4.out
      have f4 := hP5.frozen (off + j * 7 + 4)
      have HP5 := hide hP5
      have He4' := hide e4
      clear hP1 hP2 hP3 hP4 hb2 hP5 e0 e1 e2 e3 f0 f1 f2 f3
      go_wp2_with fail
      have hP6 := HP5.out.store (.string (mkT (q + 1 + 1 + 1 + 1))) He4'.out
      simp only [List.length_nil, List.length_cons, Nat.zero_add, Nat.add_zero, List.nil_append, List.cons_append, Nat.reduceAdd] at hP6
      generalize w2.setCell ⟨b, off + j * 7 + 4, none⟩ (.string (mkT (q + 1 + 1 + 1 + 1))) = W2 at hP6 ⊢
      refine (l_markText (q + 1 + 1 + 1 + 1 + 1) (by omega) (by omega) _).mono ?_
      rintro e w3 ⟨rfl, hb3⟩
      have hP7 := hP6.below hb3
      have e5 : w3.cell? ⟨b, off + j * 7 + 5, none⟩ = some (.string x.h.name) := hP7.cell (by simp) He5.out
      have e6 : w3.cell? ⟨b, off + j * 7 + 6, none⟩ = some (.slice A2 x.args.length cap2) := hP7.cell (by simp) He6.out
      have f5 := hP7.frozen (off + j * 7 + 5)
      have HP7 := hide hP7
      have He5' := hide e5
      clear hP6 hb3 hP7 e4 f4
      go_wp2_with fail
      have hP8 := HP7.out.store (.string (mkT (q + 1 + 1 + 1 + 1 + 1))) He5'.out
      simp only [List.length_nil, List.length_cons, Nat.zero_add, Nat.add_zero, List.nil_append, List.cons_append, Nat.reduceAdd] at hP8
      generalize w3.setCell ⟨b, off + j * 7 + 5, none⟩ (.string (mkT (q + 1 + 1 + 1 + 1 + 1))) = W3 at hP8 ⊢
      have hP9 := hP8.keep (u := .slice A2 x.args.length cap2) (hP8.cell (i := off + j * 7 + 6) (by simp) He6.out)
      simp only [List.length_nil, List.length_cons, Nat.zero_add, Nat.add_zero, List.nil_append, List.cons_append, Nat.reduceAdd] at hP9
      have hfr3 := hP9.fresh Hfr.out
      have hnd := Hfr.out.nodup
      rw [HFeq.out] at hfr3 hnd
      have hFk : Fresh C W3 Fk := hfr3.mid
      have hbk : b ∉ F1 ++ (Fk ++ F2) := (List.nodup_cons.1 hnd).1
      have hlt3 : ∀ k ∈ Fk, k < wr.heap.size := fun k hk => Hfr.out.lt k (by rw [HFeq.out]; simp [hk])
      have hs3 : SlR 7 (ExR d') W3 x.args (.slice A2 x.args.length cap2) Fk := Hsa.out.frame (ExR.good d') (fun k hk => hP9.far k (hlt3 k hk) (fun e => hbk (by simp [← e, hk])) (by simp)) hP9.size
      refine Calls.mono (HME.out C (q + 1 + 1 + 1 + 1 + 1 + 1) x.args _ Fk W3 hs3 hFk (by omega) (by omega)) ?_
      rintro en w4 ⟨rfl, hs4, hf4, ha4⟩
      have hP10 := (hP9.weak (X := Fk)).apart ha4 (fun hm => hbk (by simp [hm])) (fun k hk => hk)
      have hnm := nodup_mid hnd
      have hy : ExR (d' + 1) w4 (mkE (d' + 1) q x) [.int .i64 (q : Int), .int .i64 ((q : Int) + 1), .int .i64 ((q : Int) + 1 + 1), .int .i64 ((q : Int) + 1 + 1 + 1), .string (mkT (q + 1 + 1 + 1 + 1)), .string (mkT (q + 1 + 1 + 1 + 1 + 1)), .slice A2 x.args.length cap2] Fk :=
        ⟨_, rfl, mkE_ok (by omega), hs4⟩
      have hset := ElR.set (ExR.good (d' + 1)) hP10.size (by rw [half_len (by omega)]; exact hlt) Hg1.out Hg2.out hy hP10.cellsAt
        (fun i hi => hP10.same rfl i (by rw [Nat.add_mul] at hi; omega)) (fun k hk => hP10.far k (Hfr.out.lt k (by rw [HFeq.out]; simp [hk])) (hnm.1 k hk).1 (hnm.1 k hk).2) (fun k hk => hP10.far k (Hfr.out.lt k (by rw [HFeq.out]; simp [hk])) (hnm.2 k hk).1 (hnm.2 k hk).2)
      have hnext := half_next (mk := mkE (d' + 1)) (ct := ctE0 (d' + 1)) (k := k) Hx.out
      rw [Hkq.out] at hnext
      rw [hnext] at hset
      have Hset := hide hset
      have Hfr4 := hide (hP10.freshX Hfr.out (fun k hk => hf4.cells k hk))
      have Hap : Hid (Apart (b :: F') w w4) := hide (Ha.out.trans ⟨hP10.os, hP10.tape, hP10.output, hP10.size, fun k hk hF => hP10.far k hk (fun e => hF (by simp [e])) (fun hm => hF (by rw [HFeq.out]; simp [hm]))⟩)
      have hc2 : q + 1 + 1 + 1 + 1 + 1 + 1 + ctL (ctE0 d') x.args = k + ctL (ctE0 (d' + 1)) (xs.take (j + 1)) := by rw [hcnt.out, ← Nat.add_assoc, Hkq.out]; omega
      have Hc2 := hide hc2
      clear hP8 hP9 hP10 hfr3 hnd hFk hbk hlt3 hs3 hs4 hf4 ha4 hnm hy hset hnext hc2 e5 e6 f5
      go_wp2_with fail
      exact ⟨⟨j + 1, by omega, by go_num, by rw [← Hc2.out]; go_num, hide (by rw [HFeq.out]; exact Hset.out), Hfr4, Hap⟩, by simp [intOf]; omega⟩
    · have hjn : j = xs.length := by omega
      subst hjn
      go_wp2_with fail
      go_ret
      have h1 := Hel.out
      rw [List.take_length, List.drop_length, List.append_nil] at h1
      refine ⟨ret_int (by rw [Htl.out]), ⟨some ⟨b, off, none⟩, cap, by rw [mkL_len], by rw [mkL_len]; exact Hm.out.1, Hm.out.2, .inr ⟨b, off, F', rfl, Hfr.out.lt b (by simp), rfl, h1⟩⟩, Hfr.out, Ha.out⟩
theorem ms_Ex : ∀ d, MsE d
  | 0 => ms_loop 0 (fun d' h => by omega)
  | d + 1 => ms_loop (d + 1) (fun d' h => by
    obtain rfl : d = d' := by omega
    exact ms_Ex d)
end Go.Proofs.YtjddmboaaebbiaaGreatDoor

/- Attributes and symbols overwritten by marks, and held against them. Conditions: numbers from 1 to 2^40. -/
namespace Go.Proofs.YtjddmboaaebbiaaGreatDoor
set_option linter.unusedSimpArgs false
set_option linter.unusedVariables false
set_option maxRecDepth 100000
open Go.RowKit Go.WideShapes
set_option linter.unusedVariables false

theorem PutG.nil_at {w W : World} {b o o' : Nat} {X : List Nat} {vs : List Value} (h : PutG w b o X vs W) : PutG W b o' [] [] W := by
  obtain ⟨bs, bs', t, _, h2, _⟩ := h.blk
  exact PutG.nil h2
theorem PutG.join {w W W1 : World} {b o : Nat} {X : List Nat} {vs us : List Value} (h : PutG w b o X vs W) (s : PutG W b (o + vs.length) [] us W1) : PutG w b o X (vs ++ us) W1 := by
  obtain ⟨⟨bs, bs', t, h1, h2, h3, h4, h5⟩, hf, hs, e1, e2, e3⟩ := h
  obtain ⟨⟨cs, cs', t', k1, k2, k3, k4, k5⟩, kf, ks, l1, l2, l3⟩ := s
  rw [h2] at k1
  have e := Option.some.inj k1
  injection e with ea eb
  subst ea eb
  refine ⟨⟨bs, cs', t, h1, k2, by omega, fun i hi => ?_, fun i u hu => ?_⟩, fun k hk hb hX => (kf k (Nat.lt_of_lt_of_le hk hs) hb (by simp)).trans (hf k hk hb hX), Nat.le_trans hs ks, l1.trans e1, l2.trans e2, l3.trans e3⟩
  · rw [List.length_append] at hi
    rw [k4 i (by omega)]
    exact h4 i (by omega)
  · by_cases hl : i < vs.length
    · rw [List.getElem?_append_left hl] at hu
      rw [k4 (o + i) (by omega)]
      exact h5 i u hu
    · rw [List.getElem?_append_right (by omega)] at hu
      have := k5 _ u hu
      rwa [show o + vs.length + (i - vs.length) = o + i by omega] at this
theorem PutG.step {w W W1 W2 : World} {b o : Nat} {X G : List Nat} {vs us : List Value} (h : PutG w b o X vs W) (s : PutG W b (o + vs.length) [] us W1) (ha : Apart G W1 W2) (hb : b ∉ G) (hG : ∀ k ∈ G, k ∈ X) : PutG w b o X (vs ++ us) W2 :=
  (h.join s).apart ha hb hG
theorem Fresh.left {C : Nat} {w : World} {F G : List Nat} (h : Fresh C w (F ++ G)) : Fresh C w F := ⟨(List.nodup_append.1 h.nodup).1, fun k hk => h.from_ k (by simp [hk]), fun k hk => h.cells k (by simp [hk])⟩
theorem Fresh.right {C : Nat} {w : World} {F G : List Nat} (h : Fresh C w (F ++ G)) : Fresh C w G := ⟨(List.nodup_append.1 h.nodup).2.1, fun k hk => h.from_ k (by simp [hk]), fun k hk => h.cells k (by simp [hk])⟩
theorem Fresh.dis {C : Nat} {w : World} {F G : List Nat} (h : Fresh C w (F ++ G)) : ∀ k ∈ F, k ∉ G := fun k h1 h2 => (List.nodup_append.1 h.nodup).2.2 k h1 k h2 rfl
theorem Fresh.glue {C : Nat} {w : World} {F G : List Nat} (h : Fresh C w F) (g : Fresh C w G) (hd : ∀ k ∈ F, k ∉ G) : Fresh C w (F ++ G) :=
  ⟨List.nodup_append.2 ⟨h.nodup, g.nodup, fun a ha b hb e => hd a ha (e ▸ hb)⟩, fun k hk => by rcases List.mem_append.1 hk with hk | hk; exact h.from_ k hk; exact g.from_ k hk, fun k hk => by rcases List.mem_append.1 hk with hk | hk; exact h.cells k hk; exact g.cells k hk⟩
theorem cell_same {w W : World} {b : Nat} (h : W.heap[b]? = w.heap[b]?) (i : Nat) : W.cell? ⟨b, i, none⟩ = w.cell? ⟨b, i, none⟩ := by
  unfold World.cell?
  rw [h]
def mk_Atr (D k : Nat) (x : Atr) : Atr := ⟨mkT (k), ((k + 1 : Nat) : Int), ((k + 2 : Nat) : Int), (((k + 3 : Nat) : Int) % 3 == 0)⟩
def ct_Atr (D : Nat) (x : Atr) : Nat := 4
def mk_Sym (D k : Nat) (x : Sym) : Sym := ⟨mkT (k), mkL (mk_Atr D) (ct_Atr D) (k + 1) x.attrs⟩
def ct_Sym (D : Nat) (x : Sym) : Nat := 1 + (ctL (ct_Atr D) x.attrs)
def sk_Sym (D k : Nat) (x : Sym) : Sym := { x with attrs := mkL (mk_Atr D) (ct_Atr D) (k) x.attrs }
def sc_Sym (D : Nat) (x : Sym) : Nat := ctL (ct_Atr D) x.attrs
def sk_Ex : Nat → Nat → Ex → Ex
  | 0, _, x => x
  | d + 1, k, x => .mk x.h (mkL (mkE d) (ctE0 d) k x.args)
def sc_Ex : Nat → Ex → Nat
  | 0, _ => 0
  | d + 1, x => ctL (ctE0 d) x.args
end Go.Proofs.YtjddmboaaebbiaaGreatDoor

/- Equations and contributions overwritten by marks, and held against them. Conditions: numbers from 1 to 2^40. -/
namespace Go.Proofs.YtjddmboaaebbiaaGreatDoor
set_option linter.unusedSimpArgs false
set_option linter.unusedVariables false
set_option maxRecDepth 100000
open Go.RowKit Go.WideShapes
set_option linter.unusedVariables false

def mk_Eqn (D k : Nat) (x : Eqn) : Eqn := ⟨mk_Occ (k) x.at_, mkE D (k + (ct_Occ x.at_)) x.expr⟩
def ct_Eqn (D : Nat) (x : Eqn) : Nat := (ct_Occ x.at_) + (ctE0 D x.expr)
theorem EqnR.succ {D : Nat} {w : World} {x : Eqn} {cs : List Value} {F : List Nat} (h : EqnR D w x cs F) : ∃ d, D = d + 1 := by
  obtain ⟨_, _, _, h0, h1, _⟩ := h
  match D, h1 with
  | d + 1, _ => exact ⟨d, rfl⟩
set_option maxRecDepth 100000 in
set_option maxHeartbeats 4000000 in
theorem m_Eqn (D C k : Nat) (xs : List Eqn) (v : Value) (F : List Nat) (w : World) (hs : SlR 9 (EqnR D) w xs v F) (hf : Fresh C w F) (hk : 1 ≤ k) (hkn : k + ctL (ct_Eqn D) xs ≤ 1099511627776) :
    Calls Tryz.prog 33 #[v, .int .i64 k] w fun en w' => en = .returned (.int .i64 ((k + ctL (ct_Eqn D) xs : Nat) : Int)) ∧ SlR 9 (EqnR D) w' (mkL (mk_Eqn D) (ct_Eqn D) k xs) v F ∧ Fresh C w' F ∧ Apart F w w' := by
  obtain ⟨A, cap, rfl, hlc, hm, hsl⟩ := hs
  rcases hsl with ⟨rfl, rfl⟩ | ⟨b, off, F', rfl, hb, rfl, he⟩
  · go_enter Tryz.func33, Tryz.ntmps33
    go_wp2_with fail
    go_loop [1, 5] (fun kv i => kv = .int .i64 k ∧ i = .int .i64 0) (fun _ _ => 0)
    case atStart => exact ⟨rfl, rfl⟩
    case round =>
      obtain ⟨rfl, rfl⟩ := hrel
      go_wp2_with fail
      go_ret
      exact ⟨rfl, ⟨A, cap, rfl, hlc, hm, .inl ⟨rfl, rfl⟩⟩, hf, Apart.refl _ _⟩
  have Hf := hide hf
  have hmm := hm
  unfold maxLen at hmm
  have hlm : xs.length ≤ 9223372036854775807 := by omega
  have Hm := hide (And.intro hlc hm)
  have He := hide he
  have Hct := hide (fun j => ctL_take_le (ct := ct_Eqn D) xs j)
  have Htl : Hid (xs.take xs.length = xs) := hide List.take_length
  clear hf he hlc hm hmm
  go_enter Tryz.func33, Tryz.ntmps33
  go_wp2_with fail
  go_loopw [1, 5] (fun kv i wr => ∃ j : Nat, j ≤ xs.length ∧ i = .int .i64 j ∧ kv = .int .i64 ((k + ctL (ct_Eqn D) (xs.take j) : Nat) : Int) ∧ Hid (ElR 9 (EqnR D) wr b off (mkL (mk_Eqn D) (ct_Eqn D) k (xs.take j) ++ xs.drop j) F') ∧ Hid (Fresh C wr (b :: F')) ∧ Hid (Apart (b :: F') w wr)) (fun _ i _ => xs.length - (intOf i).toNat)
  case atStart => exact ⟨0, by omega, rfl, rfl, hide (by simpa [mkL] using He.out), Hf, hide (Apart.refl _ _)⟩
  case round =>
    obtain ⟨j, hj, rfl, rfl, Hel, Hfr, Ha⟩ := hrel
    by_cases hlt : j < xs.length
    · have hx : xs[j]? = some xs[j] := List.getElem?_eq_getElem hlt
      generalize xs[j] = x at hx
      have Hx := hide hx
      have hstep := Hct.out (j + 1)
      rw [ctL_take hx] at hstep
      have hcnt : Hid (ctL (ct_Eqn D) (xs.take (j + 1)) = ctL (ct_Eqn D) (xs.take j) + ct_Eqn D x) := hide (ctL_take hx)
      obtain ⟨cs, F1, Fk, F2, hFeq, hcat, hR, g1, g2⟩ := ElR.get (EqnR.good D) Hel.out (half_at (mk := mk_Eqn D) (ct := ct_Eqn D) (k := k) hx)
      obtain ⟨d', rfl⟩ := EqnR.succ hR
      obtain ⟨c0, c1, c2, c3, c4, c5, c6, c7, c8, rfl⟩ := list_9 ((EqnR.good (d' + 1)).len hR)
      obtain ⟨f_0, f_1, _, h_0, h_1, rfl⟩ := hR
      obtain ⟨_, _, g_0_0, g_0_1, rfl⟩ := h_0
      obtain rfl : c0 = .int .i64 x.at_.pos := by simpa using g_0_0
      obtain rfl : c1 = .string x.at_.name := by simpa using g_0_1
      obtain ⟨va_1, hcs_1, _, hs_1⟩ := h_1
      simp only [ExH.cells, List.drop, List.take, List.cons.injEq, and_true] at hcs_1
      obtain ⟨rfl, rfl, rfl, rfl, rfl, rfl, rfl⟩ := hcs_1
      obtain ⟨A_1, cap_1, rfl, _, _⟩ := hs_1.form
      have hct : ct_Eqn (d' + 1) x = 8 + ctL (ctE0 d') x.expr.args := by simp only [ct_Eqn, ct_Occ, ctE0] <;> omega
      have Hcx := hide hct
      rw [hct] at hstep
      obtain ⟨bs, tt, hblk⟩ := Hfr.out.cells b (by simp)
      have e0 := hcat 0 _ rfl
      have e1 := hcat 1 _ rfl
      have e2 := hcat 2 _ rfl
      have e3 := hcat 3 _ rfl
      have e4 := hcat 4 _ rfl
      have e5 := hcat 5 _ rfl
      have e6 := hcat 6 _ rfl
      have e7 := hcat 7 _ rfl
      have e8 := hcat 8 _ rfl
      simp only [Nat.add_zero] at e0
      have hT0 : PutG wr b (off + j * 9) (([] : List Nat) ++ (f_1)) [] wr := PutG.nil hblk
      have hS0 : PutG wr b (off + j * 9) [] [] wr := PutG.nil hblk
      have hfk := Hfr.out
      rw [hFeq] at hfk
      have Hdis := hide (nodup_mid hfk.nodup)
      have Hbk : Hid (∀ k ∈ ([] : List Nat) ++ (f_1), k ≠ b) := hide fun k hk e => (List.nodup_cons.1 hfk.nodup).1 (e ▸ List.mem_append_right _ (List.mem_append_left _ hk))
      have hmid : Fresh C wr (([] : List Nat) ++ (f_1)) := hfk.mid
      have Rf_1 : Hid (Fresh C wr f_1) := hide (hmid.right)
      have Of_1 := hide hs_1
      have Nf_1 : Hid (∀ k ∈ f_1, k ≠ b) := hide fun k hk => Hbk.out k (by simp [hk])
      have Hg1 := hide g1
      have Hg2 := hide g2
      have HFeq := hide hFeq
      have He0 := hide e0
      have He1 := hide e1
      have He2 := hide e2
      have He3 := hide e3
      have He4 := hide e4
      have He5 := hide e5
      have He6 := hide e6
      have He7 := hide e7
      have He8 := hide e8
      have HT := hide hT0
      have HS := hide hS0
      generalize hkq : k + ctL (ct_Eqn (d' + 1)) (xs.take j) = q at hstep ⊢
      have Hkq := hide hkq
      have hq1 : 1 ≤ q := by omega
      have hq2 : q + (8 + ctL (ctE0 d') x.expr.args) ≤ 1099511627776 := by omega
      have hx_x_expr : ctE0 (d' + 1) x.expr = 6 + ctL (ctE0 d') x.expr.args := rfl
      obtain ⟨q1, hqq1⟩ : ∃ q1 : Nat, q + 1 + 1 + 1 + 1 + 1 + 1 + 1 + 1 + ctL (ctE0 d') x.expr.args = q1 := ⟨_, rfl⟩
      have hqb1 : 1 ≤ q1 ∧ q1 ≤ 1099511627776 := by omega
      obtain ⟨hqb1a, hqb1b⟩ := hqb1
      have hmk : mk_Eqn (d' + 1) q x = (Eqn.mk (mk_Occ (q) x.at_) (mkE (d' + 1) (q + 1 + 1) x.expr)) := by
        rfl
      have Hmk := hide hmk
      have Hqq1 := hide hqq1
      clear hmk  hqq1 hx_x_expr
      have hj0 : (0 : Int) ≤ (j : Int) := by omega
      have hj1 : (j : Int) < (xs.length : Int) := by omega
      clear hx hcat hblk g1 g2 hFeq hT0 hS0 hfk hmid hkq hstep hct hs_1 e0 e1 e2 e3 e4 e5 e6 e7 e8
      have G0 := He0
      have G1 := He1
      have G2 := He2
      have G3 := He3
      have G4 := He4
      have G5 := He5
      have G6 := He6
      have G7 := He7
      have G8 := He8
      have c_0 : wr.cell? ⟨b, off + j * 9, none⟩ = some (.int .i64 x.at_.pos) := HS.out.cell (i := off + j * 9) (by simp) G0.out
      have f_0 := HS.out.frozen (off + j * 9)
      go_wp2_with fail
      have p0 : PutG wr b (off + j * 9) [] [.int .i64 ((q : Int))] (wr.setCell ⟨b, off + j * 9, none⟩ (.int .i64 ((q : Int)))) := PutG.store HS.out (.int .i64 ((q : Int))) (c := .int .i64 x.at_.pos) (by exact (PutG.cell (i := off + j * 9) HS.out (by simp) (G0.out)))
      generalize wr.setCell ⟨b, off + j * 9, none⟩ (.int .i64 ((q : Int))) = U1 at p0 ⊢
      clear HS
      have HS := hide p0
      clear p0
      refine (l_markText (q + 1) (by omega) (by omega) _).mono ?_
      rintro e U2 ⟨rfl, hb2⟩
      have hS := HS.out.below hb2
      clear HS hb2
      clear c_0 f_0
      have HS := hide hS
      clear hS
      have c_1 : U2.cell? ⟨b, off + j * 9 + 1, none⟩ = some (.string x.at_.name) := HS.out.cell (i := off + j * 9 + 1) (by simp) G1.out
      have f_1 := HS.out.frozen (off + j * 9 + 1)
      have c_2 : U2.cell? ⟨b, off + j * 9 + 2, none⟩ = some (.int .i64 x.expr.h.kind) := HS.out.cell (i := off + j * 9 + 2) (by simp) G2.out
      have f_2 := HS.out.frozen (off + j * 9 + 2)
      have c_3 : U2.cell? ⟨b, off + j * 9 + 3, none⟩ = some (.int .i64 x.expr.h.n) := HS.out.cell (i := off + j * 9 + 3) (by simp) G3.out
      have f_3 := HS.out.frozen (off + j * 9 + 3)
      have c_4 : U2.cell? ⟨b, off + j * 9 + 4, none⟩ = some (.int .i64 x.expr.h.pos) := HS.out.cell (i := off + j * 9 + 4) (by simp) G4.out
      have f_4 := HS.out.frozen (off + j * 9 + 4)
      have c_5 : U2.cell? ⟨b, off + j * 9 + 5, none⟩ = some (.int .i64 x.expr.h.type) := HS.out.cell (i := off + j * 9 + 5) (by simp) G5.out
      have f_5 := HS.out.frozen (off + j * 9 + 5)
      go_wp2_with fail
      have p0 : PutG wr b (off + j * 9) [] [.int .i64 ((q : Int)), .string (mkT (q + 1))] (U2.setCell ⟨b, off + j * 9 + 1, none⟩ (.string (mkT (q + 1)))) := PutG.store HS.out (.string (mkT (q + 1))) (c := .string x.at_.name) (by exact (PutG.cell (i := off + j * 9 + 1) HS.out (by simp) (G1.out)))
      have p1 : PutG wr b (off + j * 9) [] [.int .i64 ((q : Int)), .string (mkT (q + 1)), .int .i64 ((q : Int) + 1 + 1)] ((U2.setCell ⟨b, off + j * 9 + 1, none⟩ (.string (mkT (q + 1)))).setCell ⟨b, off + j * 9 + 2, none⟩ (.int .i64 ((q : Int) + 1 + 1))) := PutG.store p0 (.int .i64 ((q : Int) + 1 + 1)) (c := .int .i64 x.expr.h.kind) (by exact (PutG.cell (i := off + j * 9 + 2) p0 (by simp) (G2.out)))
      have p2 : PutG wr b (off + j * 9) [] [.int .i64 ((q : Int)), .string (mkT (q + 1)), .int .i64 ((q : Int) + 1 + 1), .int .i64 ((q : Int) + 1 + 1 + 1)] (((U2.setCell ⟨b, off + j * 9 + 1, none⟩ (.string (mkT (q + 1)))).setCell ⟨b, off + j * 9 + 2, none⟩ (.int .i64 ((q : Int) + 1 + 1))).setCell ⟨b, off + j * 9 + 3, none⟩ (.int .i64 ((q : Int) + 1 + 1 + 1))) := PutG.store p1 (.int .i64 ((q : Int) + 1 + 1 + 1)) (c := .int .i64 x.expr.h.n) (by exact (PutG.cell (i := off + j * 9 + 3) p1 (by simp) (G3.out)))
      have p3 : PutG wr b (off + j * 9) [] [.int .i64 ((q : Int)), .string (mkT (q + 1)), .int .i64 ((q : Int) + 1 + 1), .int .i64 ((q : Int) + 1 + 1 + 1), .int .i64 ((q : Int) + 1 + 1 + 1 + 1)] ((((U2.setCell ⟨b, off + j * 9 + 1, none⟩ (.string (mkT (q + 1)))).setCell ⟨b, off + j * 9 + 2, none⟩ (.int .i64 ((q : Int) + 1 + 1))).setCell ⟨b, off + j * 9 + 3, none⟩ (.int .i64 ((q : Int) + 1 + 1 + 1))).setCell ⟨b, off + j * 9 + 4, none⟩ (.int .i64 ((q : Int) + 1 + 1 + 1 + 1))) := PutG.store p2 (.int .i64 ((q : Int) + 1 + 1 + 1 + 1)) (c := .int .i64 x.expr.h.pos) (by exact (PutG.cell (i := off + j * 9 + 4) p2 (by simp) (G4.out)))
      have p4 : PutG wr b (off + j * 9) [] [.int .i64 ((q : Int)), .string (mkT (q + 1)), .int .i64 ((q : Int) + 1 + 1), .int .i64 ((q : Int) + 1 + 1 + 1), .int .i64 ((q : Int) + 1 + 1 + 1 + 1), .int .i64 ((q : Int) + 1 + 1 + 1 + 1 + 1)] (((((U2.setCell ⟨b, off + j * 9 + 1, none⟩ (.string (mkT (q + 1)))).setCell ⟨b, off + j * 9 + 2, none⟩ (.int .i64 ((q : Int) + 1 + 1))).setCell ⟨b, off + j * 9 + 3, none⟩ (.int .i64 ((q : Int) + 1 + 1 + 1))).setCell ⟨b, off + j * 9 + 4, none⟩ (.int .i64 ((q : Int) + 1 + 1 + 1 + 1))).setCell ⟨b, off + j * 9 + 5, none⟩ (.int .i64 ((q : Int) + 1 + 1 + 1 + 1 + 1))) := PutG.store p3 (.int .i64 ((q : Int) + 1 + 1 + 1 + 1 + 1)) (c := .int .i64 x.expr.h.type) (by exact (PutG.cell (i := off + j * 9 + 5) p3 (by simp) (G5.out)))
      generalize ((((U2.setCell ⟨b, off + j * 9 + 1, none⟩ (.string (mkT (q + 1)))).setCell ⟨b, off + j * 9 + 2, none⟩ (.int .i64 ((q : Int) + 1 + 1))).setCell ⟨b, off + j * 9 + 3, none⟩ (.int .i64 ((q : Int) + 1 + 1 + 1))).setCell ⟨b, off + j * 9 + 4, none⟩ (.int .i64 ((q : Int) + 1 + 1 + 1 + 1))).setCell ⟨b, off + j * 9 + 5, none⟩ (.int .i64 ((q : Int) + 1 + 1 + 1 + 1 + 1)) = U3 at p4 ⊢
      clear HS
      have HS := hide p4
      clear p0 p1 p2 p3 p4
      refine (l_markText (q + 1 + 1 + 1 + 1 + 1 + 1) (by omega) (by omega) _).mono ?_
      rintro e U4 ⟨rfl, hb2⟩
      have hS := HS.out.below hb2
      clear HS hb2
      clear c_1 f_1 c_2 f_2 c_3 f_3 c_4 f_4 c_5 f_5
      have HS := hide hS
      clear hS
      have c_6 : U4.cell? ⟨b, off + j * 9 + 6, none⟩ = some (.string x.expr.h.symbol) := HS.out.cell (i := off + j * 9 + 6) (by simp) G6.out
      have f_6 := HS.out.frozen (off + j * 9 + 6)
      go_wp2_with fail
      have p0 : PutG wr b (off + j * 9) [] [.int .i64 ((q : Int)), .string (mkT (q + 1)), .int .i64 ((q : Int) + 1 + 1), .int .i64 ((q : Int) + 1 + 1 + 1), .int .i64 ((q : Int) + 1 + 1 + 1 + 1), .int .i64 ((q : Int) + 1 + 1 + 1 + 1 + 1), .string (mkT (q + 1 + 1 + 1 + 1 + 1 + 1))] (U4.setCell ⟨b, off + j * 9 + 6, none⟩ (.string (mkT (q + 1 + 1 + 1 + 1 + 1 + 1)))) := PutG.store HS.out (.string (mkT (q + 1 + 1 + 1 + 1 + 1 + 1))) (c := .string x.expr.h.symbol) (by exact (PutG.cell (i := off + j * 9 + 6) HS.out (by simp) (G6.out)))
      generalize U4.setCell ⟨b, off + j * 9 + 6, none⟩ (.string (mkT (q + 1 + 1 + 1 + 1 + 1 + 1))) = U5 at p0 ⊢
      clear HS
      have HS := hide p0
      clear p0
      refine (l_markText (q + 1 + 1 + 1 + 1 + 1 + 1 + 1) (by omega) (by omega) _).mono ?_
      rintro e U6 ⟨rfl, hb2⟩
      have hS := HS.out.below hb2
      clear HS hb2
      clear c_6 f_6
      have HS := hide hS
      clear hS
      have c_7 : U6.cell? ⟨b, off + j * 9 + 7, none⟩ = some (.string x.expr.h.name) := HS.out.cell (i := off + j * 9 + 7) (by simp) G7.out
      have f_7 := HS.out.frozen (off + j * 9 + 7)
      have c_8 : U6.cell? ⟨b, off + j * 9 + 8, none⟩ = some (.slice A_1 x.expr.args.length cap_1) := HS.out.cell (i := off + j * 9 + 8) (by simp) G8.out
      go_wp2_with fail
      have p0 : PutG wr b (off + j * 9) [] [.int .i64 ((q : Int)), .string (mkT (q + 1)), .int .i64 ((q : Int) + 1 + 1), .int .i64 ((q : Int) + 1 + 1 + 1), .int .i64 ((q : Int) + 1 + 1 + 1 + 1), .int .i64 ((q : Int) + 1 + 1 + 1 + 1 + 1), .string (mkT (q + 1 + 1 + 1 + 1 + 1 + 1)), .string (mkT (q + 1 + 1 + 1 + 1 + 1 + 1 + 1))] (U6.setCell ⟨b, off + j * 9 + 7, none⟩ (.string (mkT (q + 1 + 1 + 1 + 1 + 1 + 1 + 1)))) := PutG.store HS.out (.string (mkT (q + 1 + 1 + 1 + 1 + 1 + 1 + 1))) (c := .string x.expr.h.name) (by exact (PutG.cell (i := off + j * 9 + 7) HS.out (by simp) (G7.out)))
      generalize U6.setCell ⟨b, off + j * 9 + 7, none⟩ (.string (mkT (q + 1 + 1 + 1 + 1 + 1 + 1 + 1))) = U7 at p0 ⊢
      clear HS
      have HS := hide p0
      clear p0
      have hS := HS.out.keep (u := .slice A_1 x.expr.args.length cap_1) (HS.out.cell (i := off + j * 9 + 8) (by simp) G8.out)
      have hS : PutG wr b (off + j * 9) [] [.int .i64 ((q : Int)), .string (mkT (q + 1)), .int .i64 ((q : Int) + 1 + 1), .int .i64 ((q : Int) + 1 + 1 + 1), .int .i64 ((q : Int) + 1 + 1 + 1 + 1), .int .i64 ((q : Int) + 1 + 1 + 1 + 1 + 1), .string (mkT (q + 1 + 1 + 1 + 1 + 1 + 1)), .string (mkT (q + 1 + 1 + 1 + 1 + 1 + 1 + 1)), .slice A_1 x.expr.args.length cap_1] U7 := hS
      have hOf_1 := Of_1.out.frame (ExR.good d') (fun k hk => hS.far k (Of_1.out.lt (ExR.good d') k hk) (Nf_1.out k hk) (by simp)) hS.size
      have hRf_1 := hS.fresh Rf_1.out
      refine Calls.mono (ms_Ex d' C (q + 1 + 1 + 1 + 1 + 1 + 1 + 1 + 1) x.expr.args _ f_1 U7 hOf_1 hRf_1 (by omega) (by omega)) ?_
      rintro en U8 ⟨rfl, hOn, hRn, ha⟩
      have hT : PutG wr b (off + j * 9) (([] : List Nat) ++ (f_1)) [.int .i64 ((q : Int)), .string (mkT (q + 1)), .int .i64 ((q : Int) + 1 + 1), .int .i64 ((q : Int) + 1 + 1 + 1), .int .i64 ((q : Int) + 1 + 1 + 1 + 1), .int .i64 ((q : Int) + 1 + 1 + 1 + 1 + 1), .string (mkT (q + 1 + 1 + 1 + 1 + 1 + 1)), .string (mkT (q + 1 + 1 + 1 + 1 + 1 + 1 + 1)), .slice A_1 x.expr.args.length cap_1] U8 := HT.out.step hS ha (fun hm => Nf_1.out b hm rfl) (fun k hk => by simp [hk])
      clear Of_1 Rf_1
      have Of_1 := hide hOn
      have Rf_1 := hide hRn
      have hS2 : PutG U8 b (off + j * 9 + 9) [] [] U8 := hT.nil_at
      clear HT HS hS ha hOn hRn 
      clear hOf_1 hRf_1
      clear c_7 f_7 c_8
      have HT := hide hT
      have HS := hide hS2
      clear hT hS2
      rw [Hqq1.out]
      have hT := HT.out
      have hOf_1 := Of_1.out
      have hRf_1 := Rf_1.out
      have hy : EqnR (d' + 1) U8 (mk_Eqn (d' + 1) q x) [.int .i64 ((q : Int)), .string (mkT (q + 1)), .int .i64 ((q : Int) + 1 + 1), .int .i64 ((q : Int) + 1 + 1 + 1), .int .i64 ((q : Int) + 1 + 1 + 1 + 1), .int .i64 ((q : Int) + 1 + 1 + 1 + 1 + 1), .string (mkT (q + 1 + 1 + 1 + 1 + 1 + 1)), .string (mkT (q + 1 + 1 + 1 + 1 + 1 + 1 + 1)), .slice A_1 x.expr.args.length cap_1] (([] : List Nat) ++ (f_1)) := by
        rw [Hmk.out]
        exact ⟨_, _, rfl, ⟨rfl, ⟨wf_int (z := ((q : Nat) : Int)) (by omega) (by omega), mkT_small (k := q + 1) (by omega)⟩, rfl, rfl, rfl⟩, ⟨_, rfl, mkE_ok (k := q + 1 + 1) (by omega), hOf_1⟩, rfl⟩
      have hset := ElR.set (EqnR.good (d' + 1)) hT.size (by rw [half_len (by omega)]; exact hlt) Hg1.out Hg2.out hy hT.cellsAt
        (fun i hi => hT.same rfl i (by rw [Nat.add_mul] at hi; omega)) (fun k hk => hT.far k (Hfr.out.lt k (by rw [HFeq.out]; simp [hk])) (Hdis.out.1 k hk).1 (Hdis.out.1 k hk).2) (fun k hk => hT.far k (Hfr.out.lt k (by rw [HFeq.out]; simp [hk])) (Hdis.out.2 k hk).1 (Hdis.out.2 k hk).2)
      have hnext := half_next (mk := mk_Eqn (d' + 1)) (ct := ct_Eqn (d' + 1)) (k := k) Hx.out
      rw [Hkq.out] at hnext
      rw [hnext] at hset
      have Hset := hide hset
      have Hfr4 := hide (hT.freshX Hfr.out (fun k hk => by first | exact hRf_1.cells k hk | exact hRf_1.cells k (by simpa using hk)))
      have Hap : Hid (Apart (b :: F') w U8) := hide (Ha.out.trans ⟨hT.os, hT.tape, hT.output, hT.size, fun k hk hF => hT.far k hk (fun e => hF (by simp [e])) (fun hm => hF (by rw [HFeq.out]; exact List.mem_cons_of_mem _ (List.mem_append_right _ (List.mem_append_left _ hm))))⟩)
      have hc2 : q1 = k + ctL (ct_Eqn (d' + 1)) (xs.take (j + 1)) := by have h1 := hcnt.out; have h2 := Hkq.out; have h3 := Hcx.out; have := Hqq1.out; omega
      have Hc2 := hide hc2
      clear hT hy hset hnext hc2 HS HT hOf_1 hRf_1 Of_1 Rf_1
      go_wp2_with fail
      exact ⟨⟨j + 1, by omega, by go_num, by rw [← Hc2.out]; first | done | go_num, hide (by rw [HFeq.out]; exact Hset.out), Hfr4, Hap⟩, by simp [intOf]; omega⟩
    · have hjn : j = xs.length := by omega
      subst hjn
      go_wp2_with fail
      go_ret
      have h1 := Hel.out
      rw [List.take_length, List.drop_length, List.append_nil] at h1
      refine ⟨ret_int (by rw [Htl.out]), ⟨some ⟨b, off, none⟩, cap, by rw [mkL_len], by rw [mkL_len]; exact Hm.out.1, Hm.out.2, .inr ⟨b, off, F', rfl, Hfr.out.lt b (by simp), rfl, h1⟩⟩, Hfr.out, Ha.out⟩
def mk_Con (D k : Nat) (x : Con) : Con := ⟨mkT (k), mkT (k + 1), mkE D (k + 2) x.target, mkE D (k + 2 + (ctE0 D x.target)) x.value⟩
def ct_Con (D : Nat) (x : Con) : Nat := 2 + (ctE0 D x.target) + (ctE0 D x.value)
theorem ConR.succ {D : Nat} {w : World} {x : Con} {cs : List Value} {F : List Nat} (h : ConR D w x cs F) : ∃ d, D = d + 1 := by
  obtain ⟨_, _, _, _, _, _, h2, h3, _⟩ := h
  match D, h2 with
  | d + 1, _ => exact ⟨d, rfl⟩
set_option maxRecDepth 100000 in
set_option maxHeartbeats 4000000 in
theorem m_Con (D C k : Nat) (xs : List Con) (v : Value) (F : List Nat) (w : World) (hs : SlR 16 (ConR D) w xs v F) (hf : Fresh C w F) (hk : 1 ≤ k) (hkn : k + ctL (ct_Con D) xs ≤ 1099511627776) :
    Calls Tryz.prog 34 #[v, .int .i64 k] w fun en w' => en = .returned (.int .i64 ((k + ctL (ct_Con D) xs : Nat) : Int)) ∧ SlR 16 (ConR D) w' (mkL (mk_Con D) (ct_Con D) k xs) v F ∧ Fresh C w' F ∧ Apart F w w' := by
  obtain ⟨A, cap, rfl, hlc, hm, hsl⟩ := hs
  rcases hsl with ⟨rfl, rfl⟩ | ⟨b, off, F', rfl, hb, rfl, he⟩
  · go_enter Tryz.func34, Tryz.ntmps34
    go_wp2_with fail
    go_loop [1, 5] (fun kv i => kv = .int .i64 k ∧ i = .int .i64 0) (fun _ _ => 0)
    case atStart => exact ⟨rfl, rfl⟩
    case round =>
      obtain ⟨rfl, rfl⟩ := hrel
      go_wp2_with fail
      go_ret
      exact ⟨rfl, ⟨A, cap, rfl, hlc, hm, .inl ⟨rfl, rfl⟩⟩, hf, Apart.refl _ _⟩
  have Hf := hide hf
  have hmm := hm
  unfold maxLen at hmm
  have hlm : xs.length ≤ 9223372036854775807 := by omega
  have Hm := hide (And.intro hlc hm)
  have He := hide he
  have Hct := hide (fun j => ctL_take_le (ct := ct_Con D) xs j)
  have Htl : Hid (xs.take xs.length = xs) := hide List.take_length
  clear hf he hlc hm hmm
  go_enter Tryz.func34, Tryz.ntmps34
  go_wp2_with fail
  go_loopw [1, 5] (fun kv i wr => ∃ j : Nat, j ≤ xs.length ∧ i = .int .i64 j ∧ kv = .int .i64 ((k + ctL (ct_Con D) (xs.take j) : Nat) : Int) ∧ Hid (ElR 16 (ConR D) wr b off (mkL (mk_Con D) (ct_Con D) k (xs.take j) ++ xs.drop j) F') ∧ Hid (Fresh C wr (b :: F')) ∧ Hid (Apart (b :: F') w wr)) (fun _ i _ => xs.length - (intOf i).toNat)
  case atStart => exact ⟨0, by omega, rfl, rfl, hide (by simpa [mkL] using He.out), Hf, hide (Apart.refl _ _)⟩
  case round =>
    obtain ⟨j, hj, rfl, rfl, Hel, Hfr, Ha⟩ := hrel
    by_cases hlt : j < xs.length
    · have hx : xs[j]? = some xs[j] := List.getElem?_eq_getElem hlt
      generalize xs[j] = x at hx
      have Hx := hide hx
      have hstep := Hct.out (j + 1)
      rw [ctL_take hx] at hstep
      have hcnt : Hid (ctL (ct_Con D) (xs.take (j + 1)) = ctL (ct_Con D) (xs.take j) + ct_Con D x) := hide (ctL_take hx)
      obtain ⟨cs, F1, Fk, F2, hFeq, hcat, hR, g1, g2⟩ := ElR.get (ConR.good D) Hel.out (half_at (mk := mk_Con D) (ct := ct_Con D) (k := k) hx)
      obtain ⟨d', rfl⟩ := ConR.succ hR
      obtain ⟨c0, c1, c2, c3, c4, c5, c6, c7, c8, c9, c10, c11, c12, c13, c14, c15, rfl⟩ := list_16 ((ConR.good (d' + 1)).len hR)
      obtain ⟨f_2, f_3, _, _, g_0, g_1, h_2, h_3, rfl⟩ := hR
      obtain rfl : c0 = .string x.symbol := by simpa using g_0
      obtain rfl : c1 = .string x.name := by simpa using g_1
      obtain ⟨va_2, hcs_2, _, hs_2⟩ := h_2
      simp only [ExH.cells, List.drop, List.take, List.cons.injEq, and_true] at hcs_2
      obtain ⟨rfl, rfl, rfl, rfl, rfl, rfl, rfl⟩ := hcs_2
      obtain ⟨A_2, cap_2, rfl, _, _⟩ := hs_2.form
      obtain ⟨va_3, hcs_3, _, hs_3⟩ := h_3
      simp only [ExH.cells, List.drop, List.take, List.cons.injEq, and_true] at hcs_3
      obtain ⟨rfl, rfl, rfl, rfl, rfl, rfl, rfl⟩ := hcs_3
      obtain ⟨A_3, cap_3, rfl, _, _⟩ := hs_3.form
      have hct : ct_Con (d' + 1) x = 14 + ctL (ctE0 d') x.target.args + ctL (ctE0 d') x.value.args := by simp only [ct_Con, ctE0] <;> omega
      have Hcx := hide hct
      rw [hct] at hstep
      obtain ⟨bs, tt, hblk⟩ := Hfr.out.cells b (by simp)
      have e0 := hcat 0 _ rfl
      have e1 := hcat 1 _ rfl
      have e2 := hcat 2 _ rfl
      have e3 := hcat 3 _ rfl
      have e4 := hcat 4 _ rfl
      have e5 := hcat 5 _ rfl
      have e6 := hcat 6 _ rfl
      have e7 := hcat 7 _ rfl
      have e8 := hcat 8 _ rfl
      have e9 := hcat 9 _ rfl
      have e10 := hcat 10 _ rfl
      have e11 := hcat 11 _ rfl
      have e12 := hcat 12 _ rfl
      have e13 := hcat 13 _ rfl
      have e14 := hcat 14 _ rfl
      have e15 := hcat 15 _ rfl
      simp only [Nat.add_zero] at e0
      have hT0 : PutG wr b (off + j * 16) (f_2 ++ (f_3)) [] wr := PutG.nil hblk
      have hS0 : PutG wr b (off + j * 16) [] [] wr := PutG.nil hblk
      have hfk := Hfr.out
      rw [hFeq] at hfk
      have Hdis := hide (nodup_mid hfk.nodup)
      have Hbk : Hid (∀ k ∈ f_2 ++ (f_3), k ≠ b) := hide fun k hk e => (List.nodup_cons.1 hfk.nodup).1 (e ▸ List.mem_append_right _ (List.mem_append_left _ hk))
      have hmid : Fresh C wr (f_2 ++ (f_3)) := hfk.mid
      have Rf_2 : Hid (Fresh C wr f_2) := hide (hmid.left)
      have Of_2 := hide hs_2
      have Nf_2 : Hid (∀ k ∈ f_2, k ≠ b) := hide fun k hk => Hbk.out k (by simp [hk])
      have Rf_3 : Hid (Fresh C wr f_3) := hide (hmid.right)
      have Of_3 := hide hs_3
      have Nf_3 : Hid (∀ k ∈ f_3, k ≠ b) := hide fun k hk => Hbk.out k (by simp [hk])
      have Df_2f_3 : Hid (∀ k ∈ f_2, k ∉ f_3) := hide (fun k h1 h2 => hmid.dis k h1 (by simp [h2]))
      have Hg1 := hide g1
      have Hg2 := hide g2
      have HFeq := hide hFeq
      have He0 := hide e0
      have He1 := hide e1
      have He2 := hide e2
      have He3 := hide e3
      have He4 := hide e4
      have He5 := hide e5
      have He6 := hide e6
      have He7 := hide e7
      have He8 := hide e8
      have He9 := hide e9
      have He10 := hide e10
      have He11 := hide e11
      have He12 := hide e12
      have He13 := hide e13
      have He14 := hide e14
      have He15 := hide e15
      have HT := hide hT0
      have HS := hide hS0
      generalize hkq : k + ctL (ct_Con (d' + 1)) (xs.take j) = q at hstep ⊢
      have Hkq := hide hkq
      have hq1 : 1 ≤ q := by omega
      have hq2 : q + (14 + ctL (ctE0 d') x.target.args + ctL (ctE0 d') x.value.args) ≤ 1099511627776 := by omega
      have hx_x_target : ctE0 (d' + 1) x.target = 6 + ctL (ctE0 d') x.target.args := rfl
      have hx_x_value : ctE0 (d' + 1) x.value = 6 + ctL (ctE0 d') x.value.args := rfl
      obtain ⟨q1, hqq1⟩ : ∃ q1 : Nat, q + 1 + 1 + 1 + 1 + 1 + 1 + 1 + 1 + ctL (ctE0 d') x.target.args = q1 := ⟨_, rfl⟩
      have hqb1 : 1 ≤ q1 ∧ q1 + 6 + ctL (ctE0 d') x.value.args ≤ 1099511627776 := by omega
      obtain ⟨hqb1a, hqb1b⟩ := hqb1
      obtain ⟨q2, hqq2⟩ : ∃ q2 : Nat, q1 + 1 + 1 + 1 + 1 + 1 + 1 + ctL (ctE0 d') x.value.args = q2 := ⟨_, rfl⟩
      have hqb2 : 1 ≤ q2 ∧ q2 ≤ 1099511627776 := by omega
      obtain ⟨hqb2a, hqb2b⟩ := hqb2
      have hn0 : q + 2 + (ctE0 (d' + 1) x.target) = q1 := by omega
      have hmk : mk_Con (d' + 1) q x = (Con.mk (mkT (q)) (mkT (q + 1)) (mkE (d' + 1) (q + 1 + 1) x.target) (mkE (d' + 1) (q1) x.value)) := by
        unfold mk_Con
        rw [hn0]
      have Hmk := hide hmk
      have Hqq1 := hide hqq1
      have Hqq2 := hide hqq2
      clear hmk hn0 hqq1 hqq2 hx_x_target hx_x_value
      have hj0 : (0 : Int) ≤ (j : Int) := by omega
      have hj1 : (j : Int) < (xs.length : Int) := by omega
      clear hx hcat hblk g1 g2 hFeq hT0 hS0 hfk hmid hkq hstep hct hs_2 hs_3 e0 e1 e2 e3 e4 e5 e6 e7 e8 e9 e10 e11 e12 e13 e14 e15
      have G0 := He0
      have G1 := He1
      have G2 := He2
      have G3 := He3
      have G4 := He4
      have G5 := He5
      have G6 := He6
      have G7 := He7
      have G8 := He8
      have G9 := He9
      have G10 := He10
      have G11 := He11
      have G12 := He12
      have G13 := He13
      have G14 := He14
      have G15 := He15
      go_wp2_with fail
      refine (l_markText (q) (by omega) (by omega) _).mono ?_
      rintro e U1 ⟨rfl, hb2⟩
      have hS := HS.out.below hb2
      clear HS hb2
      have HS := hide hS
      clear hS
      have c_0 : U1.cell? ⟨b, off + j * 16, none⟩ = some (.string x.symbol) := HS.out.cell (i := off + j * 16) (by simp) G0.out
      have f_0 := HS.out.frozen (off + j * 16)
      go_wp2_with fail
      have p0 : PutG wr b (off + j * 16) [] [.string (mkT (q))] (U1.setCell ⟨b, off + j * 16, none⟩ (.string (mkT (q)))) := PutG.store HS.out (.string (mkT (q))) (c := .string x.symbol) (by exact (PutG.cell (i := off + j * 16) HS.out (by simp) (G0.out)))
      generalize U1.setCell ⟨b, off + j * 16, none⟩ (.string (mkT (q))) = U2 at p0 ⊢
      clear HS
      have HS := hide p0
      clear p0
      refine (l_markText (q + 1) (by omega) (by omega) _).mono ?_
      rintro e U3 ⟨rfl, hb2⟩
      have hS := HS.out.below hb2
      clear HS hb2
      clear c_0 f_0
      have HS := hide hS
      clear hS
      have c_1 : U3.cell? ⟨b, off + j * 16 + 1, none⟩ = some (.string x.name) := HS.out.cell (i := off + j * 16 + 1) (by simp) G1.out
      have f_1 := HS.out.frozen (off + j * 16 + 1)
      have c_2 : U3.cell? ⟨b, off + j * 16 + 2, none⟩ = some (.int .i64 x.target.h.kind) := HS.out.cell (i := off + j * 16 + 2) (by simp) G2.out
      have f_2 := HS.out.frozen (off + j * 16 + 2)
      have c_3 : U3.cell? ⟨b, off + j * 16 + 3, none⟩ = some (.int .i64 x.target.h.n) := HS.out.cell (i := off + j * 16 + 3) (by simp) G3.out
      have f_3 := HS.out.frozen (off + j * 16 + 3)
      have c_4 : U3.cell? ⟨b, off + j * 16 + 4, none⟩ = some (.int .i64 x.target.h.pos) := HS.out.cell (i := off + j * 16 + 4) (by simp) G4.out
      have f_4 := HS.out.frozen (off + j * 16 + 4)
      have c_5 : U3.cell? ⟨b, off + j * 16 + 5, none⟩ = some (.int .i64 x.target.h.type) := HS.out.cell (i := off + j * 16 + 5) (by simp) G5.out
      have f_5 := HS.out.frozen (off + j * 16 + 5)
      go_wp2_with fail
      have p0 : PutG wr b (off + j * 16) [] [.string (mkT (q)), .string (mkT (q + 1))] (U3.setCell ⟨b, off + j * 16 + 1, none⟩ (.string (mkT (q + 1)))) := PutG.store HS.out (.string (mkT (q + 1))) (c := .string x.name) (by exact (PutG.cell (i := off + j * 16 + 1) HS.out (by simp) (G1.out)))
      have p1 : PutG wr b (off + j * 16) [] [.string (mkT (q)), .string (mkT (q + 1)), .int .i64 ((q : Int) + 1 + 1)] ((U3.setCell ⟨b, off + j * 16 + 1, none⟩ (.string (mkT (q + 1)))).setCell ⟨b, off + j * 16 + 2, none⟩ (.int .i64 ((q : Int) + 1 + 1))) := PutG.store p0 (.int .i64 ((q : Int) + 1 + 1)) (c := .int .i64 x.target.h.kind) (by exact (PutG.cell (i := off + j * 16 + 2) p0 (by simp) (G2.out)))
      have p2 : PutG wr b (off + j * 16) [] [.string (mkT (q)), .string (mkT (q + 1)), .int .i64 ((q : Int) + 1 + 1), .int .i64 ((q : Int) + 1 + 1 + 1)] (((U3.setCell ⟨b, off + j * 16 + 1, none⟩ (.string (mkT (q + 1)))).setCell ⟨b, off + j * 16 + 2, none⟩ (.int .i64 ((q : Int) + 1 + 1))).setCell ⟨b, off + j * 16 + 3, none⟩ (.int .i64 ((q : Int) + 1 + 1 + 1))) := PutG.store p1 (.int .i64 ((q : Int) + 1 + 1 + 1)) (c := .int .i64 x.target.h.n) (by exact (PutG.cell (i := off + j * 16 + 3) p1 (by simp) (G3.out)))
      have p3 : PutG wr b (off + j * 16) [] [.string (mkT (q)), .string (mkT (q + 1)), .int .i64 ((q : Int) + 1 + 1), .int .i64 ((q : Int) + 1 + 1 + 1), .int .i64 ((q : Int) + 1 + 1 + 1 + 1)] ((((U3.setCell ⟨b, off + j * 16 + 1, none⟩ (.string (mkT (q + 1)))).setCell ⟨b, off + j * 16 + 2, none⟩ (.int .i64 ((q : Int) + 1 + 1))).setCell ⟨b, off + j * 16 + 3, none⟩ (.int .i64 ((q : Int) + 1 + 1 + 1))).setCell ⟨b, off + j * 16 + 4, none⟩ (.int .i64 ((q : Int) + 1 + 1 + 1 + 1))) := PutG.store p2 (.int .i64 ((q : Int) + 1 + 1 + 1 + 1)) (c := .int .i64 x.target.h.pos) (by exact (PutG.cell (i := off + j * 16 + 4) p2 (by simp) (G4.out)))
      have p4 : PutG wr b (off + j * 16) [] [.string (mkT (q)), .string (mkT (q + 1)), .int .i64 ((q : Int) + 1 + 1), .int .i64 ((q : Int) + 1 + 1 + 1), .int .i64 ((q : Int) + 1 + 1 + 1 + 1), .int .i64 ((q : Int) + 1 + 1 + 1 + 1 + 1)] (((((U3.setCell ⟨b, off + j * 16 + 1, none⟩ (.string (mkT (q + 1)))).setCell ⟨b, off + j * 16 + 2, none⟩ (.int .i64 ((q : Int) + 1 + 1))).setCell ⟨b, off + j * 16 + 3, none⟩ (.int .i64 ((q : Int) + 1 + 1 + 1))).setCell ⟨b, off + j * 16 + 4, none⟩ (.int .i64 ((q : Int) + 1 + 1 + 1 + 1))).setCell ⟨b, off + j * 16 + 5, none⟩ (.int .i64 ((q : Int) + 1 + 1 + 1 + 1 + 1))) := PutG.store p3 (.int .i64 ((q : Int) + 1 + 1 + 1 + 1 + 1)) (c := .int .i64 x.target.h.type) (by exact (PutG.cell (i := off + j * 16 + 5) p3 (by simp) (G5.out)))
      generalize ((((U3.setCell ⟨b, off + j * 16 + 1, none⟩ (.string (mkT (q + 1)))).setCell ⟨b, off + j * 16 + 2, none⟩ (.int .i64 ((q : Int) + 1 + 1))).setCell ⟨b, off + j * 16 + 3, none⟩ (.int .i64 ((q : Int) + 1 + 1 + 1))).setCell ⟨b, off + j * 16 + 4, none⟩ (.int .i64 ((q : Int) + 1 + 1 + 1 + 1))).setCell ⟨b, off + j * 16 + 5, none⟩ (.int .i64 ((q : Int) + 1 + 1 + 1 + 1 + 1)) = U4 at p4 ⊢
      clear HS
      have HS := hide p4
      clear p0 p1 p2 p3 p4
      refine (l_markText (q + 1 + 1 + 1 + 1 + 1 + 1) (by omega) (by omega) _).mono ?_
      rintro e U5 ⟨rfl, hb2⟩
      have hS := HS.out.below hb2
      clear HS hb2
      clear c_1 f_1 c_2 f_2 c_3 f_3 c_4 f_4 c_5 f_5
      have HS := hide hS
      clear hS
      have c_6 : U5.cell? ⟨b, off + j * 16 + 6, none⟩ = some (.string x.target.h.symbol) := HS.out.cell (i := off + j * 16 + 6) (by simp) G6.out
      have f_6 := HS.out.frozen (off + j * 16 + 6)
      go_wp2_with fail
      have p0 : PutG wr b (off + j * 16) [] [.string (mkT (q)), .string (mkT (q + 1)), .int .i64 ((q : Int) + 1 + 1), .int .i64 ((q : Int) + 1 + 1 + 1), .int .i64 ((q : Int) + 1 + 1 + 1 + 1), .int .i64 ((q : Int) + 1 + 1 + 1 + 1 + 1), .string (mkT (q + 1 + 1 + 1 + 1 + 1 + 1))] (U5.setCell ⟨b, off + j * 16 + 6, none⟩ (.string (mkT (q + 1 + 1 + 1 + 1 + 1 + 1)))) := PutG.store HS.out (.string (mkT (q + 1 + 1 + 1 + 1 + 1 + 1))) (c := .string x.target.h.symbol) (by exact (PutG.cell (i := off + j * 16 + 6) HS.out (by simp) (G6.out)))
      generalize U5.setCell ⟨b, off + j * 16 + 6, none⟩ (.string (mkT (q + 1 + 1 + 1 + 1 + 1 + 1))) = U6 at p0 ⊢
      clear HS
      have HS := hide p0
      clear p0
      refine (l_markText (q + 1 + 1 + 1 + 1 + 1 + 1 + 1) (by omega) (by omega) _).mono ?_
      rintro e U7 ⟨rfl, hb2⟩
      have hS := HS.out.below hb2
      clear HS hb2
      clear c_6 f_6
      have HS := hide hS
      clear hS
      have c_7 : U7.cell? ⟨b, off + j * 16 + 7, none⟩ = some (.string x.target.h.name) := HS.out.cell (i := off + j * 16 + 7) (by simp) G7.out
      have f_7 := HS.out.frozen (off + j * 16 + 7)
      have c_8 : U7.cell? ⟨b, off + j * 16 + 8, none⟩ = some (.slice A_2 x.target.args.length cap_2) := HS.out.cell (i := off + j * 16 + 8) (by simp) G8.out
      go_wp2_with fail
      have p0 : PutG wr b (off + j * 16) [] [.string (mkT (q)), .string (mkT (q + 1)), .int .i64 ((q : Int) + 1 + 1), .int .i64 ((q : Int) + 1 + 1 + 1), .int .i64 ((q : Int) + 1 + 1 + 1 + 1), .int .i64 ((q : Int) + 1 + 1 + 1 + 1 + 1), .string (mkT (q + 1 + 1 + 1 + 1 + 1 + 1)), .string (mkT (q + 1 + 1 + 1 + 1 + 1 + 1 + 1))] (U7.setCell ⟨b, off + j * 16 + 7, none⟩ (.string (mkT (q + 1 + 1 + 1 + 1 + 1 + 1 + 1)))) := PutG.store HS.out (.string (mkT (q + 1 + 1 + 1 + 1 + 1 + 1 + 1))) (c := .string x.target.h.name) (by exact (PutG.cell (i := off + j * 16 + 7) HS.out (by simp) (G7.out)))
      generalize U7.setCell ⟨b, off + j * 16 + 7, none⟩ (.string (mkT (q + 1 + 1 + 1 + 1 + 1 + 1 + 1))) = U8 at p0 ⊢
      clear HS
      have HS := hide p0
      clear p0
      have hS := HS.out.keep (u := .slice A_2 x.target.args.length cap_2) (HS.out.cell (i := off + j * 16 + 8) (by simp) G8.out)
      have hS : PutG wr b (off + j * 16) [] [.string (mkT (q)), .string (mkT (q + 1)), .int .i64 ((q : Int) + 1 + 1), .int .i64 ((q : Int) + 1 + 1 + 1), .int .i64 ((q : Int) + 1 + 1 + 1 + 1), .int .i64 ((q : Int) + 1 + 1 + 1 + 1 + 1), .string (mkT (q + 1 + 1 + 1 + 1 + 1 + 1)), .string (mkT (q + 1 + 1 + 1 + 1 + 1 + 1 + 1)), .slice A_2 x.target.args.length cap_2] U8 := hS
      have hOf_2 := Of_2.out.frame (ExR.good d') (fun k hk => hS.far k (Of_2.out.lt (ExR.good d') k hk) (Nf_2.out k hk) (by simp)) hS.size
      have hRf_2 := hS.fresh Rf_2.out
      have hOf_3 := Of_3.out.frame (ExR.good d') (fun k hk => hS.far k (Of_3.out.lt (ExR.good d') k hk) (Nf_3.out k hk) (by simp)) hS.size
      have hRf_3 := hS.fresh Rf_3.out
      refine Calls.mono (ms_Ex d' C (q + 1 + 1 + 1 + 1 + 1 + 1 + 1 + 1) x.target.args _ f_2 U8 hOf_2 hRf_2 (by omega) (by omega)) ?_
      rintro en U9 ⟨rfl, hOn, hRn, ha⟩
      have hT : PutG wr b (off + j * 16) (f_2 ++ (f_3)) [.string (mkT (q)), .string (mkT (q + 1)), .int .i64 ((q : Int) + 1 + 1), .int .i64 ((q : Int) + 1 + 1 + 1), .int .i64 ((q : Int) + 1 + 1 + 1 + 1), .int .i64 ((q : Int) + 1 + 1 + 1 + 1 + 1), .string (mkT (q + 1 + 1 + 1 + 1 + 1 + 1)), .string (mkT (q + 1 + 1 + 1 + 1 + 1 + 1 + 1)), .slice A_2 x.target.args.length cap_2] U9 := HT.out.step hS ha (fun hm => Nf_2.out b hm rfl) (fun k hk => by simp [hk])
      have hOf_3 := hOf_3.apart (ExR.good d') ha (fun k h1 h2 => Df_2f_3.out k h2 h1)
      have hRf_3 := hRf_3.apart ha (fun k h1 h2 => Df_2f_3.out k h2 h1)
      clear Of_2 Rf_2 Of_3 Rf_3
      have Of_2 := hide hOn
      have Rf_2 := hide hRn
      have Of_3 := hide hOf_3
      have Rf_3 := hide hRf_3
      have hS2 : PutG U9 b (off + j * 16 + 9) [] [] U9 := hT.nil_at
      have g := hT.cell (i := off + j * 16 + 9) (by simp) He9.out
      clear G9
      have G9 := hide g
      clear g
      have g := hT.cell (i := off + j * 16 + 10) (by simp) He10.out
      clear G10
      have G10 := hide g
      clear g
      have g := hT.cell (i := off + j * 16 + 11) (by simp) He11.out
      clear G11
      have G11 := hide g
      clear g
      have g := hT.cell (i := off + j * 16 + 12) (by simp) He12.out
      clear G12
      have G12 := hide g
      clear g
      have g := hT.cell (i := off + j * 16 + 13) (by simp) He13.out
      clear G13
      have G13 := hide g
      clear g
      have g := hT.cell (i := off + j * 16 + 14) (by simp) He14.out
      clear G14
      have G14 := hide g
      clear g
      have g := hT.cell (i := off + j * 16 + 15) (by simp) He15.out
      clear G15
      have G15 := hide g
      clear g
      clear HT HS hS ha hOn hRn hOf_3 hRf_3
      clear hOf_2 hRf_2
      clear c_7 f_7 c_8
      have HT := hide hT
      have HS := hide hS2
      clear hT hS2
      rw [Hqq1.out]
      have c_9 : U9.cell? ⟨b, off + j * 16 + 9, none⟩ = some (.int .i64 x.value.h.kind) := HS.out.cell (i := off + j * 16 + 9) (by simp) G9.out
      have f_9 := HS.out.frozen (off + j * 16 + 9)
      have c_10 : U9.cell? ⟨b, off + j * 16 + 10, none⟩ = some (.int .i64 x.value.h.n) := HS.out.cell (i := off + j * 16 + 10) (by simp) G10.out
      have f_10 := HS.out.frozen (off + j * 16 + 10)
      have c_11 : U9.cell? ⟨b, off + j * 16 + 11, none⟩ = some (.int .i64 x.value.h.pos) := HS.out.cell (i := off + j * 16 + 11) (by simp) G11.out
      have f_11 := HS.out.frozen (off + j * 16 + 11)
      have c_12 : U9.cell? ⟨b, off + j * 16 + 12, none⟩ = some (.int .i64 x.value.h.type) := HS.out.cell (i := off + j * 16 + 12) (by simp) G12.out
      have f_12 := HS.out.frozen (off + j * 16 + 12)
      go_wp2_with fail
      have p0 : PutG U9 b (off + j * 16 + 9) [] [.int .i64 ((q1 : Int))] (U9.setCell ⟨b, off + j * 16 + 9, none⟩ (.int .i64 ((q1 : Int)))) := PutG.store HS.out (.int .i64 ((q1 : Int))) (c := .int .i64 x.value.h.kind) (by exact (PutG.cell (i := off + j * 16 + 9) HS.out (by simp) (G9.out)))
      have p1 : PutG U9 b (off + j * 16 + 9) [] [.int .i64 ((q1 : Int)), .int .i64 ((q1 : Int) + 1)] ((U9.setCell ⟨b, off + j * 16 + 9, none⟩ (.int .i64 ((q1 : Int)))).setCell ⟨b, off + j * 16 + 10, none⟩ (.int .i64 ((q1 : Int) + 1))) := PutG.store p0 (.int .i64 ((q1 : Int) + 1)) (c := .int .i64 x.value.h.n) (by exact (PutG.cell (i := off + j * 16 + 10) p0 (by simp) (G10.out)))
      have p2 : PutG U9 b (off + j * 16 + 9) [] [.int .i64 ((q1 : Int)), .int .i64 ((q1 : Int) + 1), .int .i64 ((q1 : Int) + 1 + 1)] (((U9.setCell ⟨b, off + j * 16 + 9, none⟩ (.int .i64 ((q1 : Int)))).setCell ⟨b, off + j * 16 + 10, none⟩ (.int .i64 ((q1 : Int) + 1))).setCell ⟨b, off + j * 16 + 11, none⟩ (.int .i64 ((q1 : Int) + 1 + 1))) := PutG.store p1 (.int .i64 ((q1 : Int) + 1 + 1)) (c := .int .i64 x.value.h.pos) (by exact (PutG.cell (i := off + j * 16 + 11) p1 (by simp) (G11.out)))
      have p3 : PutG U9 b (off + j * 16 + 9) [] [.int .i64 ((q1 : Int)), .int .i64 ((q1 : Int) + 1), .int .i64 ((q1 : Int) + 1 + 1), .int .i64 ((q1 : Int) + 1 + 1 + 1)] ((((U9.setCell ⟨b, off + j * 16 + 9, none⟩ (.int .i64 ((q1 : Int)))).setCell ⟨b, off + j * 16 + 10, none⟩ (.int .i64 ((q1 : Int) + 1))).setCell ⟨b, off + j * 16 + 11, none⟩ (.int .i64 ((q1 : Int) + 1 + 1))).setCell ⟨b, off + j * 16 + 12, none⟩ (.int .i64 ((q1 : Int) + 1 + 1 + 1))) := PutG.store p2 (.int .i64 ((q1 : Int) + 1 + 1 + 1)) (c := .int .i64 x.value.h.type) (by exact (PutG.cell (i := off + j * 16 + 12) p2 (by simp) (G12.out)))
      generalize (((U9.setCell ⟨b, off + j * 16 + 9, none⟩ (.int .i64 ((q1 : Int)))).setCell ⟨b, off + j * 16 + 10, none⟩ (.int .i64 ((q1 : Int) + 1))).setCell ⟨b, off + j * 16 + 11, none⟩ (.int .i64 ((q1 : Int) + 1 + 1))).setCell ⟨b, off + j * 16 + 12, none⟩ (.int .i64 ((q1 : Int) + 1 + 1 + 1)) = U10 at p3 ⊢
      clear HS
      have HS := hide p3
      clear p0 p1 p2 p3
      refine (l_markText (q1 + 1 + 1 + 1 + 1) (by omega) (by omega) _).mono ?_
      rintro e U11 ⟨rfl, hb2⟩
      have hS := HS.out.below hb2
      clear HS hb2
      clear c_9 f_9 c_10 f_10 c_11 f_11 c_12 f_12
      have HS := hide hS
      clear hS
      have c_13 : U11.cell? ⟨b, off + j * 16 + 13, none⟩ = some (.string x.value.h.symbol) := HS.out.cell (i := off + j * 16 + 13) (by simp) G13.out
      have f_13 := HS.out.frozen (off + j * 16 + 13)
      go_wp2_with fail
      have p0 : PutG U9 b (off + j * 16 + 9) [] [.int .i64 ((q1 : Int)), .int .i64 ((q1 : Int) + 1), .int .i64 ((q1 : Int) + 1 + 1), .int .i64 ((q1 : Int) + 1 + 1 + 1), .string (mkT (q1 + 1 + 1 + 1 + 1))] (U11.setCell ⟨b, off + j * 16 + 13, none⟩ (.string (mkT (q1 + 1 + 1 + 1 + 1)))) := PutG.store HS.out (.string (mkT (q1 + 1 + 1 + 1 + 1))) (c := .string x.value.h.symbol) (by exact (PutG.cell (i := off + j * 16 + 13) HS.out (by simp) (G13.out)))
      generalize U11.setCell ⟨b, off + j * 16 + 13, none⟩ (.string (mkT (q1 + 1 + 1 + 1 + 1))) = U12 at p0 ⊢
      clear HS
      have HS := hide p0
      clear p0
      refine (l_markText (q1 + 1 + 1 + 1 + 1 + 1) (by omega) (by omega) _).mono ?_
      rintro e U13 ⟨rfl, hb2⟩
      have hS := HS.out.below hb2
      clear HS hb2
      clear c_13 f_13
      have HS := hide hS
      clear hS
      have c_14 : U13.cell? ⟨b, off + j * 16 + 14, none⟩ = some (.string x.value.h.name) := HS.out.cell (i := off + j * 16 + 14) (by simp) G14.out
      have f_14 := HS.out.frozen (off + j * 16 + 14)
      have c_15 : U13.cell? ⟨b, off + j * 16 + 15, none⟩ = some (.slice A_3 x.value.args.length cap_3) := HS.out.cell (i := off + j * 16 + 15) (by simp) G15.out
      go_wp2_with fail
      have p0 : PutG U9 b (off + j * 16 + 9) [] [.int .i64 ((q1 : Int)), .int .i64 ((q1 : Int) + 1), .int .i64 ((q1 : Int) + 1 + 1), .int .i64 ((q1 : Int) + 1 + 1 + 1), .string (mkT (q1 + 1 + 1 + 1 + 1)), .string (mkT (q1 + 1 + 1 + 1 + 1 + 1))] (U13.setCell ⟨b, off + j * 16 + 14, none⟩ (.string (mkT (q1 + 1 + 1 + 1 + 1 + 1)))) := PutG.store HS.out (.string (mkT (q1 + 1 + 1 + 1 + 1 + 1))) (c := .string x.value.h.name) (by exact (PutG.cell (i := off + j * 16 + 14) HS.out (by simp) (G14.out)))
      generalize U13.setCell ⟨b, off + j * 16 + 14, none⟩ (.string (mkT (q1 + 1 + 1 + 1 + 1 + 1))) = U14 at p0 ⊢
      clear HS
      have HS := hide p0
      clear p0
      have hS := HS.out.keep (u := .slice A_3 x.value.args.length cap_3) (HS.out.cell (i := off + j * 16 + 15) (by simp) G15.out)
      have hS : PutG U9 b (off + j * 16 + 9) [] [.int .i64 ((q1 : Int)), .int .i64 ((q1 : Int) + 1), .int .i64 ((q1 : Int) + 1 + 1), .int .i64 ((q1 : Int) + 1 + 1 + 1), .string (mkT (q1 + 1 + 1 + 1 + 1)), .string (mkT (q1 + 1 + 1 + 1 + 1 + 1)), .slice A_3 x.value.args.length cap_3] U14 := hS
      have hOf_2 := Of_2.out.frame (ExR.good d') (fun k hk => hS.far k (Of_2.out.lt (ExR.good d') k hk) (Nf_2.out k hk) (by simp)) hS.size
      have hRf_2 := hS.fresh Rf_2.out
      have hOf_3 := Of_3.out.frame (ExR.good d') (fun k hk => hS.far k (Of_3.out.lt (ExR.good d') k hk) (Nf_3.out k hk) (by simp)) hS.size
      have hRf_3 := hS.fresh Rf_3.out
      refine Calls.mono (ms_Ex d' C (q1 + 1 + 1 + 1 + 1 + 1 + 1) x.value.args _ f_3 U14 hOf_3 hRf_3 (by omega) (by omega)) ?_
      rintro en U15 ⟨rfl, hOn, hRn, ha⟩
      have hT : PutG wr b (off + j * 16) (f_2 ++ (f_3)) [.string (mkT (q)), .string (mkT (q + 1)), .int .i64 ((q : Int) + 1 + 1), .int .i64 ((q : Int) + 1 + 1 + 1), .int .i64 ((q : Int) + 1 + 1 + 1 + 1), .int .i64 ((q : Int) + 1 + 1 + 1 + 1 + 1), .string (mkT (q + 1 + 1 + 1 + 1 + 1 + 1)), .string (mkT (q + 1 + 1 + 1 + 1 + 1 + 1 + 1)), .slice A_2 x.target.args.length cap_2, .int .i64 ((q1 : Int)), .int .i64 ((q1 : Int) + 1), .int .i64 ((q1 : Int) + 1 + 1), .int .i64 ((q1 : Int) + 1 + 1 + 1), .string (mkT (q1 + 1 + 1 + 1 + 1)), .string (mkT (q1 + 1 + 1 + 1 + 1 + 1)), .slice A_3 x.value.args.length cap_3] U15 := HT.out.step hS ha (fun hm => Nf_3.out b hm rfl) (fun k hk => by simp [hk])
      have hOf_2 := hOf_2.apart (ExR.good d') ha Df_2f_3.out
      have hRf_2 := hRf_2.apart ha Df_2f_3.out
      clear Of_2 Rf_2 Of_3 Rf_3
      have Of_2 := hide hOf_2
      have Rf_2 := hide hRf_2
      have Of_3 := hide hOn
      have Rf_3 := hide hRn
      have hS2 : PutG U15 b (off + j * 16 + 16) [] [] U15 := hT.nil_at
      clear HT HS hS ha hOn hRn hOf_2 hRf_2
      clear hOf_3 hRf_3
      clear c_14 f_14 c_15
      have HT := hide hT
      have HS := hide hS2
      clear hT hS2
      rw [Hqq2.out]
      have hT := HT.out
      have hOf_2 := Of_2.out
      have hRf_2 := Rf_2.out
      have hOf_3 := Of_3.out
      have hRf_3 := Rf_3.out
      have hy : ConR (d' + 1) U15 (mk_Con (d' + 1) q x) [.string (mkT (q)), .string (mkT (q + 1)), .int .i64 ((q : Int) + 1 + 1), .int .i64 ((q : Int) + 1 + 1 + 1), .int .i64 ((q : Int) + 1 + 1 + 1 + 1), .int .i64 ((q : Int) + 1 + 1 + 1 + 1 + 1), .string (mkT (q + 1 + 1 + 1 + 1 + 1 + 1)), .string (mkT (q + 1 + 1 + 1 + 1 + 1 + 1 + 1)), .slice A_2 x.target.args.length cap_2, .int .i64 ((q1 : Int)), .int .i64 ((q1 : Int) + 1), .int .i64 ((q1 : Int) + 1 + 1), .int .i64 ((q1 : Int) + 1 + 1 + 1), .string (mkT (q1 + 1 + 1 + 1 + 1)), .string (mkT (q1 + 1 + 1 + 1 + 1 + 1)), .slice A_3 x.value.args.length cap_3] (f_2 ++ (f_3)) := by
        rw [Hmk.out]
        exact ⟨_, _, rfl, ⟨mkT_small (k := q) (by omega), mkT_small (k := q + 1) (by omega)⟩, rfl, rfl, ⟨_, rfl, mkE_ok (k := q + 1 + 1) (by omega), hOf_2⟩, ⟨_, rfl, mkE_ok (k := q1) (by omega), hOf_3⟩, rfl⟩
      have hset := ElR.set (ConR.good (d' + 1)) hT.size (by rw [half_len (by omega)]; exact hlt) Hg1.out Hg2.out hy hT.cellsAt
        (fun i hi => hT.same rfl i (by rw [Nat.add_mul] at hi; omega)) (fun k hk => hT.far k (Hfr.out.lt k (by rw [HFeq.out]; simp [hk])) (Hdis.out.1 k hk).1 (Hdis.out.1 k hk).2) (fun k hk => hT.far k (Hfr.out.lt k (by rw [HFeq.out]; simp [hk])) (Hdis.out.2 k hk).1 (Hdis.out.2 k hk).2)
      have hnext := half_next (mk := mk_Con (d' + 1)) (ct := ct_Con (d' + 1)) (k := k) Hx.out
      rw [Hkq.out] at hnext
      rw [hnext] at hset
      have Hset := hide hset
      have Hfr4 := hide (hT.freshX Hfr.out (fun k hk => by simp only [List.nil_append, List.mem_append] at hk; rcases hk with hk | hk <;> first | exact hRf_2.cells k hk | exact hRf_3.cells k hk))
      have Hap : Hid (Apart (b :: F') w U15) := hide (Ha.out.trans ⟨hT.os, hT.tape, hT.output, hT.size, fun k hk hF => hT.far k hk (fun e => hF (by simp [e])) (fun hm => hF (by rw [HFeq.out]; exact List.mem_cons_of_mem _ (List.mem_append_right _ (List.mem_append_left _ hm))))⟩)
      have hc2 : q2 = k + ctL (ct_Con (d' + 1)) (xs.take (j + 1)) := by have h1 := hcnt.out; have h2 := Hkq.out; have h3 := Hcx.out; have := Hqq1.out; have := Hqq2.out; omega
      have Hc2 := hide hc2
      clear hT hy hset hnext hc2 HS HT hOf_2 hRf_2 Of_2 Rf_2 hOf_3 hRf_3 Of_3 Rf_3
      go_wp2_with fail
      exact ⟨⟨j + 1, by omega, by go_num, by rw [← Hc2.out]; first | done | go_num, hide (by rw [HFeq.out]; exact Hset.out), Hfr4, Hap⟩, by simp [intOf]; omega⟩
    · have hjn : j = xs.length := by omega
      subst hjn
      go_wp2_with fail
      go_ret
      have h1 := Hel.out
      rw [List.take_length, List.drop_length, List.append_nil] at h1
      refine ⟨ret_int (by rw [Htl.out]), ⟨some ⟨b, off, none⟩, cap, by rw [mkL_len], by rw [mkL_len]; exact Hm.out.1, Hm.out.2, .inr ⟨b, off, F', rfl, Hfr.out.lt b (by simp), rfl, h1⟩⟩, Hfr.out, Ha.out⟩
end Go.Proofs.YtjddmboaaebbiaaGreatDoor

/- Grammars: how one lies in memory; sizes, copies, comparisons. Conditions: sizes up to 2^20. -/
namespace Go.Proofs.YtjddmboaaebbiaaGreatDoor
set_option linter.unusedSimpArgs false
set_option linter.unusedVariables false
set_option maxRecDepth 100000
open Go.RowKit Go.WideShapes
set_option linter.unusedVariables false

set_option maxRecDepth 100000 in
theorem zs_Sym (D : Nat) (l : List Sym) (v : Value) (F : List Nat) (w : World) (L : Int) (hs : SlR 2 (SymR D) w l v F) (h0 : 0 ≤ L) (h1 : L ≤ 1048576) :
    Calls Tryz.prog 36 #[v, .int .i64 L] w fun en w' => Sized (l.length + sumBy (bulkSym D) l) L en ∧ Below w.heap.size w w' := by
  obtain ⟨A, cap, rfl, hlc, hm⟩ := hs.form
  have HF := hide (hs.lt (SymR.good D))
  unfold maxLen at hm
  have Hs := hide hs
  have Hnn := hide (bulkSym_nonneg D)
  clear hs
  by_cases hn : L < l.length
  · go_enter Tryz.func36, Tryz.ntmps36
    go_wp2_with fail
    go_ret
    exact ⟨⟨-1, rfl, .inl rfl⟩, Below.refl _ _⟩
  go_enter Tryz.func36, Tryz.ntmps36
  go_wp2_with fail
  go_loopw [1, 5] (fun c i wr => ∃ j : Nat, j ≤ l.length ∧ i = .int .i64 j ∧ c = .int .i64 (L - l.length - sumBy (bulkSym D) (l.take j)) ∧ 0 ≤ L - l.length - sumBy (bulkSym D) (l.take j) ∧ Hid (Below w.heap.size w wr)) (fun _ i _ => l.length - (intOf i).toNat)
  case atStart => exact ⟨0, by omega, rfl, by simp [sumBy], by simp [sumBy]; omega, hide (Below.refl _ _)⟩
  case round =>
    obtain ⟨j, hj, rfl, rfl, hge, Hb⟩ := hrel
    have hpos := sumBy_nonneg Hnn.out (l.take j)
    by_cases hlt : j < l.length
    · have hx : l[j]? = some l[j] := List.getElem?_eq_getElem hlt
      generalize l[j] = x at hx
      have Hsum := hide (sumBy_take_succ (f := bulkSym D) hx)
      have hcx := Hnn.out x
      obtain ⟨b, off, cs, Fk, hA, _, hbF, hFk, hcl, hcat, hR⟩ := SlR.get (SymR.good D) (Hs.out.below (SymR.good D) Hb.out HF.out) hx
      subst hA
      obtain ⟨c0, c1, rfl⟩ := list2 hcl
      have e0 : wr.cell? ⟨b, off + j * 2, none⟩ = some c0 := hcat 0 _ rfl
      have e1 : wr.cell? ⟨b, off + j * 2 + 1, none⟩ = some c1 := hcat 1 _ rfl
      have hblt := Nat.lt_of_lt_of_le (HF.out b hbF) Hb.out.size
      have HR := hide hR
      clear hx hR hcat hFk hbF hcl
      go_wp2_with fail
      refine Calls.mono (z_Sym D x _ Fk _ (L - l.length - sumBy (bulkSym D) (l.take j)) HR.out (by omega) (by omega)) ?_
      rintro en w2 ⟨⟨r, rfl, hr⟩, hb2⟩
      have HB2 : Hid (Below w.heap.size w w2) := hide (Hb.out.trans (hb2.mono Hb.out.size))
      clear hb2
      rcases hr with rfl | ⟨hr0, hr1⟩
      · go_wp2_with fail
        go_ret
        exact ⟨⟨-1, rfl, .inl rfl⟩, HB2.out⟩
      · have Hr1 := hide hr1
        clear hr1
        go_wp2_with fail
        go_roundw
        case rel => exact ⟨j + 1, by omega, by go_num, by rw [Hsum.out, Hr1.out]; go_num, by rw [Hsum.out]; have := Hr1.out; omega, HB2⟩
        case measure => simp [intOf]; omega
    · have hjl : j = l.length := by omega
      rw [hjl, List.take_length] at hge
      rw [hjl, List.take_length]
      go_wp2_with fail
      go_ret
      exact ⟨⟨_, rfl, .inr ⟨hge, by omega⟩⟩, Hb.out⟩
set_option maxRecDepth 100000 in
theorem es_Sym (D : Nat) (l : List Sym) (v v' : Value) (F F' : List Nat) (w : World) (hs : SlR 2 (SymR D) w l v F) (hs' : SlR 2 (SymR D) w l v' F') :
    Calls Tryz.prog 44 #[v, v'] w fun en w' => en = .returned (.bool true) ∧ Below w.heap.size w w' := by
  obtain ⟨A, cap, rfl, hlc, hm⟩ := hs.form
  obtain ⟨A', cap', rfl, hlc', hm'⟩ := hs'.form
  have HF := hide (hs.lt (SymR.good D))
  have HF' := hide (hs'.lt (SymR.good D))
  unfold maxLen at hm hm'
  have Hs := hide hs
  have Hs' := hide hs'
  clear hs hs'
  go_enter Tryz.func44, Tryz.ntmps44
  go_wp2_with fail
  go_loopw [5] (fun i wr => ∃ j : Nat, j ≤ l.length ∧ i = .int .i64 j ∧ Hid (Below w.heap.size w wr)) (fun i _ => l.length - (intOf i).toNat)
  case atStart => exact ⟨0, by omega, rfl, hide (Below.refl _ _)⟩
  case round =>
    obtain ⟨j, hj, rfl, Hb⟩ := hrel
    by_cases hlt : j < l.length
    · have hx : l[j]? = some l[j] := List.getElem?_eq_getElem hlt
      generalize l[j] = x at hx
      obtain ⟨b, off, cs, Fk, hA, _, hbF, hFk, hcl, hcat, hR⟩ := SlR.get (SymR.good D) (Hs.out.below (SymR.good D) Hb.out HF.out) hx
      subst hA
      obtain ⟨a0, a1, rfl⟩ := list2 hcl
      obtain ⟨b', off', cs', Fk', hA, _, hbF', hFk', hcl', hcat', hR'⟩ := SlR.get (SymR.good D) (Hs'.out.below (SymR.good D) Hb.out HF'.out) hx
      subst hA
      obtain ⟨b0, b1, rfl⟩ := list2 hcl'
      have hblt := Nat.lt_of_lt_of_le (HF.out b hbF) Hb.out.size
      have hblt' := Nat.lt_of_lt_of_le (HF'.out b' hbF') Hb.out.size
      have e0 : ∀ W : World, Below wr.heap.size wr W → W.cell? ⟨b, off + j * 2, none⟩ = some a0 := fun W h => (hcat.below h hblt) 0 _ rfl
      have e1 : ∀ W : World, Below wr.heap.size wr W → W.cell? ⟨b, off + j * 2 + 1, none⟩ = some a1 := fun W h => (hcat.below h hblt) 1 _ rfl
      have g0 : ∀ W : World, Below wr.heap.size wr W → W.cell? ⟨b', off' + j * 2, none⟩ = some b0 := fun W h => (hcat'.below h hblt') 0 _ rfl
      have g1 : ∀ W : World, Below wr.heap.size wr W → W.cell? ⟨b', off' + j * 2 + 1, none⟩ = some b1 := fun W h => (hcat'.below h hblt') 1 _ rfl
      have HR := hide hR
      have HR' := hide hR'
      have hj0 : (0 : Int) ≤ (j : Int) := by omega
      have hj1 : (j : Int) < (l.length : Int) := by omega
      have hBr : Below wr.heap.size wr wr := Below.refl _ _
      clear hx hR hR' hcat hcat' hFk hFk' hbF hbF' hcl hcl'
      go_wp2_with fail
      go_region_held3 (fun W => Below wr.heap.size wr W)
        (first | assumption | exact Below.drew (by assumption))
        ((go_at_call 72; refine Calls.mono (e_Sym D x _ _ Fk Fk' _ ((SymR.good D).heap HR.out rfl) ((SymR.good D).heap HR'.out rfl)) ?_; rintro en w2 ⟨rfl, hb2⟩; have hB2 : Below wr.heap.size wr w2 := below_step (by (repeat (first | assumption | apply Below.drew))) (Nat.le_refl _) hb2; clear hb2))
      have HB2 : Hid (Below w.heap.size w w2) := hide (Hb.out.trans (hB2.mono Hb.out.size))
      clear hB2
      go_wp2_with fail
      go_roundw
      case rel => exact ⟨j + 1, by omega, by go_num, HB2⟩
      case measure => simp [intOf]; omega
    · go_wp2_with fail
      go_ret
      exact ⟨rfl, Hb.out⟩
set_option maxRecDepth 100000 in
theorem cs_Sym (D : Nat) (l : List Sym) (v : Value) (F : List Nat) (w : World) (hs : SlR 2 (SymR D) w l v F) (hl : l.length ≤ 1048576) (hbl : sumBy (bulkSym D) l ≤ 1048576) :
    Calls Tryz.prog 40 #[v] w fun en w' => ∃ v' F', en = .returned v' ∧ SlR 2 (SymR D) w' l v' F' ∧ Fresh w.heap.size w' F' ∧ Below w.heap.size w w' := by
  obtain ⟨A, cap, rfl, hlc, hm⟩ := hs.form
  have HF := hide (hs.lt (SymR.good D))
  have Hs := hide hs
  have Hbl := hide (fun x (hx : x ∈ l) => Int.le_trans (sumBy_mem (f := bulkSym D) (bulkSym_nonneg D) hx) hbl)
  clear hs hbl hlc hm
  have hmk := fun W => run_make_rowN' (P := Tryz.prog) 45 78 (.agg #[.string ByteArray.empty, .slice none 0 0]) 2 40 Tryz.underlying45 (by kernel_rfl) .i64 .i64 l.length (by omega) (by omega) W
  have hst := fun (w : World) (a : Addr) (v : Value) (m : Mode) (hv : v.oneCell' = true) => run_store Tryz.prog w a v m hv
  go_enter Tryz.func40, Tryz.ntmps40
  go_wp2_with fail
  go_loopw [4] (fun i wr => ∃ (j : Nat) (F' : List Nat), j ≤ l.length ∧ i = .int .i64 j ∧ Hid (ElR 2 (SymR D) wr w.heap.size 0 (l.take j) F') ∧ Hid (Fresh (w.heap.size + 1) wr F') ∧ Hid (∃ cs, wr.heap[w.heap.size]? = some (.cells cs 78 (0, 0)) ∧ cs.size = l.length * 2) ∧ Hid (Below w.heap.size w wr)) (fun i _ => l.length - (intOf i).toNat)
  case atStart => exact ⟨0, [], by omega, rfl, hide rfl, hide (Fresh.nil _ _), hide ⟨_, heap_alloc_new w _, by simp [madeCells]⟩, hide ((Below.refl _ _).alloc (Nat.le_refl _) _)⟩
  case round =>
    obtain ⟨j, F', hj, rfl, Hel, Hfr, Hbk, Hb⟩ := hrel
    by_cases hlt : j < l.length
    · have hx : l[j]? = some l[j] := List.getElem?_eq_getElem hlt
      generalize l[j] = x at hx
      have Hx := hide hx
      obtain ⟨b, off, cs, Fk, hA, _, hbF, hFk, hcl, hcat, hR⟩ := SlR.get (SymR.good D) (Hs.out.below (SymR.good D) Hb.out HF.out) hx
      subst hA
      obtain ⟨c0, c1, rfl⟩ := list2 hcl
      have e0 : wr.cell? ⟨b, off + j * 2, none⟩ = some c0 := hcat 0 _ rfl
      have e1 : wr.cell? ⟨b, off + j * 2 + 1, none⟩ = some c1 := hcat 1 _ rfl
      have hblt := Nat.lt_of_lt_of_le (HF.out b hbF) Hb.out.size
      have HR := hide hR
      have hbz := Hb.out.size
      clear hx hR hcat hFk hbF hcl
      go_wp2_with fail
      refine Calls.mono (c_Sym D x _ Fk _ HR.out (Hbl.out x (List.mem_of_getElem? Hx.out))) ?_
      rintro en w2 ⟨us, F2, rfl, hR2, hf2, hb2⟩
      obtain ⟨u0, u1, rfl⟩ := list2 ((SymR.good D).len hR2)
      have ho := SymR.one hR2
      have o0 := ho u0 (by simp)
      have o1 := ho u1 (by simp)
      obtain ⟨cs, hcs, hcz⟩ := Hbk.out
      have hcs2 : w2.heap[w.heap.size]? = some (.cells cs 78 (0, 0)) := blk_below hcs hb2 (blk_lt hcs)
      have q0 := cell_at (i := j * 2) hcs2 (by omega)
      have q1 := cell_at (i := j * 2 + 1) hcs2 (by omega)
      have g0 := frozen_of_row w2 w.heap.size (j * 2) _ _ hcs2
      have g1 := frozen_of_row w2 w.heap.size (j * 2 + 1) _ _ hcs2
      have HB2 := hide hb2
      have HR2 := hide hR2
      have Hf2 := hide hf2
      have Hcs0 := hide hcs
      clear hb2 hR2 hf2 hcs hcs2 ho
      go_wp2_with fail
      have hst := copy_step (w := w) (SymR.good D) Hx.out Hel.out Hfr.out Hcs0.out hcz Hb.out HB2.out HR2.out Hf2.out rfl
      exact ⟨⟨j + 1, F' ++ F2, by omega, by go_num, hide hst.1, hide hst.2.1, hide hst.2.2.1, hide hst.2.2.2⟩, by simp [intOf]; omega⟩
    · have hjl : j = l.length := by omega
      subst hjl
      have Hel' : Hid (ElR 2 (SymR D) wr w.heap.size 0 l F') := by have := Hel.out; rw [List.take_length] at this; exact hide this
      go_wp2_with fail
      go_ret
      obtain ⟨cs, hcs, _⟩ := Hbk.out
      obtain ⟨G, hG, hGf⟩ := copy_done (w := w) (by unfold maxLen; omega) Hel'.out Hfr.out hcs
      exact ⟨_, G, rfl, hG, hGf, Hb.out⟩
set_option maxRecDepth 100000 in
theorem zs_Rul (D : Nat) (l : List Rul) (v : Value) (F : List Nat) (w : World) (L : Int) (hs : SlR 6 (RulR D) w l v F) (h0 : 0 ≤ L) (h1 : L ≤ 1048576) :
    Calls Tryz.prog 37 #[v, .int .i64 L] w fun en w' => Sized (l.length + sumBy (bulkRul D) l) L en ∧ Below w.heap.size w w' := by
  obtain ⟨A, cap, rfl, hlc, hm⟩ := hs.form
  have HF := hide (hs.lt (RulR.good D))
  unfold maxLen at hm
  have Hs := hide hs
  have Hnn := hide (bulkRul_nonneg D)
  clear hs
  by_cases hn : L < l.length
  · go_enter Tryz.func37, Tryz.ntmps37
    go_wp2_with fail
    go_ret
    exact ⟨⟨-1, rfl, .inl rfl⟩, Below.refl _ _⟩
  go_enter Tryz.func37, Tryz.ntmps37
  go_wp2_with fail
  go_loopw [1, 5] (fun c i wr => ∃ j : Nat, j ≤ l.length ∧ i = .int .i64 j ∧ c = .int .i64 (L - l.length - sumBy (bulkRul D) (l.take j)) ∧ 0 ≤ L - l.length - sumBy (bulkRul D) (l.take j) ∧ Hid (Below w.heap.size w wr)) (fun _ i _ => l.length - (intOf i).toNat)
  case atStart => exact ⟨0, by omega, rfl, by simp [sumBy], by simp [sumBy]; omega, hide (Below.refl _ _)⟩
  case round =>
    obtain ⟨j, hj, rfl, rfl, hge, Hb⟩ := hrel
    have hpos := sumBy_nonneg Hnn.out (l.take j)
    by_cases hlt : j < l.length
    · have hx : l[j]? = some l[j] := List.getElem?_eq_getElem hlt
      generalize l[j] = x at hx
      have Hsum := hide (sumBy_take_succ (f := bulkRul D) hx)
      have hcx := Hnn.out x
      obtain ⟨b, off, cs, Fk, hA, _, hbF, hFk, hcl, hcat, hR⟩ := SlR.get (RulR.good D) (Hs.out.below (RulR.good D) Hb.out HF.out) hx
      subst hA
      obtain ⟨c0, c1, c2, c3, c4, c5, rfl⟩ := list_6 hcl
      have e0 : wr.cell? ⟨b, off + j * 6, none⟩ = some c0 := hcat 0 _ rfl
      have e1 : wr.cell? ⟨b, off + j * 6 + 1, none⟩ = some c1 := hcat 1 _ rfl
      have e2 : wr.cell? ⟨b, off + j * 6 + 2, none⟩ = some c2 := hcat 2 _ rfl
      have e3 : wr.cell? ⟨b, off + j * 6 + 3, none⟩ = some c3 := hcat 3 _ rfl
      have e4 : wr.cell? ⟨b, off + j * 6 + 4, none⟩ = some c4 := hcat 4 _ rfl
      have e5 : wr.cell? ⟨b, off + j * 6 + 5, none⟩ = some c5 := hcat 5 _ rfl
      have hblt := Nat.lt_of_lt_of_le (HF.out b hbF) Hb.out.size
      have HR := hide hR
      clear hx hR hcat hFk hbF hcl
      go_wp2_with fail
      refine Calls.mono (z_Rul D x _ Fk _ (L - l.length - sumBy (bulkRul D) (l.take j)) HR.out (by omega) (by omega)) ?_
      rintro en w2 ⟨⟨r, rfl, hr⟩, hb2⟩
      have HB2 : Hid (Below w.heap.size w w2) := hide (Hb.out.trans (hb2.mono Hb.out.size))
      clear hb2
      rcases hr with rfl | ⟨hr0, hr1⟩
      · go_wp2_with fail
        go_ret
        exact ⟨⟨-1, rfl, .inl rfl⟩, HB2.out⟩
      · have Hr1 := hide hr1
        clear hr1
        go_wp2_with fail
        go_roundw
        case rel => exact ⟨j + 1, by omega, by go_num, by rw [Hsum.out, Hr1.out]; go_num, by rw [Hsum.out]; have := Hr1.out; omega, HB2⟩
        case measure => simp [intOf]; omega
    · have hjl : j = l.length := by omega
      rw [hjl, List.take_length] at hge
      rw [hjl, List.take_length]
      go_wp2_with fail
      go_ret
      exact ⟨⟨_, rfl, .inr ⟨hge, by omega⟩⟩, Hb.out⟩
set_option maxRecDepth 100000 in
theorem es_Rul (D : Nat) (l : List Rul) (v v' : Value) (F F' : List Nat) (w : World) (hs : SlR 6 (RulR D) w l v F) (hs' : SlR 6 (RulR D) w l v' F') :
    Calls Tryz.prog 45 #[v, v'] w fun en w' => en = .returned (.bool true) ∧ Below w.heap.size w w' := by
  obtain ⟨A, cap, rfl, hlc, hm⟩ := hs.form
  obtain ⟨A', cap', rfl, hlc', hm'⟩ := hs'.form
  have HF := hide (hs.lt (RulR.good D))
  have HF' := hide (hs'.lt (RulR.good D))
  unfold maxLen at hm hm'
  have Hs := hide hs
  have Hs' := hide hs'
  clear hs hs'
  go_enter Tryz.func45, Tryz.ntmps45
  go_wp2_with fail
  go_loopw [5] (fun i wr => ∃ j : Nat, j ≤ l.length ∧ i = .int .i64 j ∧ Hid (Below w.heap.size w wr)) (fun i _ => l.length - (intOf i).toNat)
  case atStart => exact ⟨0, by omega, rfl, hide (Below.refl _ _)⟩
  case round =>
    obtain ⟨j, hj, rfl, Hb⟩ := hrel
    by_cases hlt : j < l.length
    · have hx : l[j]? = some l[j] := List.getElem?_eq_getElem hlt
      generalize l[j] = x at hx
      obtain ⟨b, off, cs, Fk, hA, _, hbF, hFk, hcl, hcat, hR⟩ := SlR.get (RulR.good D) (Hs.out.below (RulR.good D) Hb.out HF.out) hx
      subst hA
      obtain ⟨a0, a1, a2, a3, a4, a5, rfl⟩ := list_6 hcl
      obtain ⟨b', off', cs', Fk', hA, _, hbF', hFk', hcl', hcat', hR'⟩ := SlR.get (RulR.good D) (Hs'.out.below (RulR.good D) Hb.out HF'.out) hx
      subst hA
      obtain ⟨b0, b1, b2, b3, b4, b5, rfl⟩ := list_6 hcl'
      have hblt := Nat.lt_of_lt_of_le (HF.out b hbF) Hb.out.size
      have hblt' := Nat.lt_of_lt_of_le (HF'.out b' hbF') Hb.out.size
      have e0 : ∀ W : World, Below wr.heap.size wr W → W.cell? ⟨b, off + j * 6, none⟩ = some a0 := fun W h => (hcat.below h hblt) 0 _ rfl
      have e1 : ∀ W : World, Below wr.heap.size wr W → W.cell? ⟨b, off + j * 6 + 1, none⟩ = some a1 := fun W h => (hcat.below h hblt) 1 _ rfl
      have e2 : ∀ W : World, Below wr.heap.size wr W → W.cell? ⟨b, off + j * 6 + 2, none⟩ = some a2 := fun W h => (hcat.below h hblt) 2 _ rfl
      have e3 : ∀ W : World, Below wr.heap.size wr W → W.cell? ⟨b, off + j * 6 + 3, none⟩ = some a3 := fun W h => (hcat.below h hblt) 3 _ rfl
      have e4 : ∀ W : World, Below wr.heap.size wr W → W.cell? ⟨b, off + j * 6 + 4, none⟩ = some a4 := fun W h => (hcat.below h hblt) 4 _ rfl
      have e5 : ∀ W : World, Below wr.heap.size wr W → W.cell? ⟨b, off + j * 6 + 5, none⟩ = some a5 := fun W h => (hcat.below h hblt) 5 _ rfl
      have g0 : ∀ W : World, Below wr.heap.size wr W → W.cell? ⟨b', off' + j * 6, none⟩ = some b0 := fun W h => (hcat'.below h hblt') 0 _ rfl
      have g1 : ∀ W : World, Below wr.heap.size wr W → W.cell? ⟨b', off' + j * 6 + 1, none⟩ = some b1 := fun W h => (hcat'.below h hblt') 1 _ rfl
      have g2 : ∀ W : World, Below wr.heap.size wr W → W.cell? ⟨b', off' + j * 6 + 2, none⟩ = some b2 := fun W h => (hcat'.below h hblt') 2 _ rfl
      have g3 : ∀ W : World, Below wr.heap.size wr W → W.cell? ⟨b', off' + j * 6 + 3, none⟩ = some b3 := fun W h => (hcat'.below h hblt') 3 _ rfl
      have g4 : ∀ W : World, Below wr.heap.size wr W → W.cell? ⟨b', off' + j * 6 + 4, none⟩ = some b4 := fun W h => (hcat'.below h hblt') 4 _ rfl
      have g5 : ∀ W : World, Below wr.heap.size wr W → W.cell? ⟨b', off' + j * 6 + 5, none⟩ = some b5 := fun W h => (hcat'.below h hblt') 5 _ rfl
      have HR := hide hR
      have HR' := hide hR'
      have hj0 : (0 : Int) ≤ (j : Int) := by omega
      have hj1 : (j : Int) < (l.length : Int) := by omega
      have hBr : Below wr.heap.size wr wr := Below.refl _ _
      clear hx hR hR' hcat hcat' hFk hFk' hbF hbF' hcl hcl'
      go_wp2_with fail
      go_region_held3 (fun W => Below wr.heap.size wr W)
        (first | assumption | exact Below.drew (by assumption))
        ((go_at_call 10; refine Calls.mono (e_Rul D x _ _ Fk Fk' _ ((RulR.good D).heap HR.out rfl) ((RulR.good D).heap HR'.out rfl)) ?_; rintro en w2 ⟨rfl, hb2⟩; have hB2 : Below wr.heap.size wr w2 := below_step (by (repeat (first | assumption | apply Below.drew))) (Nat.le_refl _) hb2; clear hb2))
      have HB2 : Hid (Below w.heap.size w w2) := hide (Hb.out.trans (hB2.mono Hb.out.size))
      clear hB2
      go_wp2_with fail
      go_roundw
      case rel => exact ⟨j + 1, by omega, by go_num, HB2⟩
      case measure => simp [intOf]; omega
    · go_wp2_with fail
      go_ret
      exact ⟨rfl, Hb.out⟩
set_option maxRecDepth 100000 in
theorem cs_Rul (D : Nat) (l : List Rul) (v : Value) (F : List Nat) (w : World) (hs : SlR 6 (RulR D) w l v F) (hl : l.length ≤ 1048576) (hbl : sumBy (bulkRul D) l ≤ 1048576) :
    Calls Tryz.prog 41 #[v] w fun en w' => ∃ v' F', en = .returned v' ∧ SlR 6 (RulR D) w' l v' F' ∧ Fresh w.heap.size w' F' ∧ Below w.heap.size w w' := by
  obtain ⟨A, cap, rfl, hlc, hm⟩ := hs.form
  have HF := hide (hs.lt (RulR.good D))
  have Hs := hide hs
  have Hbl := hide (fun x (hx : x ∈ l) => Int.le_trans (sumBy_mem (f := bulkRul D) (bulkRul_nonneg D) hx) hbl)
  clear hs hbl hlc hm
  have hmk := fun W => run_make_rowN' (P := Tryz.prog) 46 32 (.agg #[.string ByteArray.empty, .string ByteArray.empty, .slice none 0 0, .bool false, .slice none 0 0, .slice none 0 0]) 6 112 Tryz.underlying46 (by kernel_rfl) .i64 .i64 l.length (by omega) (by omega) W
  have hst := fun (w : World) (a : Addr) (v : Value) (m : Mode) (hv : v.oneCell' = true) => run_store Tryz.prog w a v m hv
  go_enter Tryz.func41, Tryz.ntmps41
  go_wp2_with fail
  go_loopw [4] (fun i wr => ∃ (j : Nat) (F' : List Nat), j ≤ l.length ∧ i = .int .i64 j ∧ Hid (ElR 6 (RulR D) wr w.heap.size 0 (l.take j) F') ∧ Hid (Fresh (w.heap.size + 1) wr F') ∧ Hid (∃ cs, wr.heap[w.heap.size]? = some (.cells cs 32 (0, 0)) ∧ cs.size = l.length * 6) ∧ Hid (Below w.heap.size w wr)) (fun i _ => l.length - (intOf i).toNat)
  case atStart => exact ⟨0, [], by omega, rfl, hide rfl, hide (Fresh.nil _ _), hide ⟨_, heap_alloc_new w _, by simp [madeCells]⟩, hide ((Below.refl _ _).alloc (Nat.le_refl _) _)⟩
  case round =>
    obtain ⟨j, F', hj, rfl, Hel, Hfr, Hbk, Hb⟩ := hrel
    by_cases hlt : j < l.length
    · have hx : l[j]? = some l[j] := List.getElem?_eq_getElem hlt
      generalize l[j] = x at hx
      have Hx := hide hx
      obtain ⟨b, off, cs, Fk, hA, _, hbF, hFk, hcl, hcat, hR⟩ := SlR.get (RulR.good D) (Hs.out.below (RulR.good D) Hb.out HF.out) hx
      subst hA
      obtain ⟨c0, c1, c2, c3, c4, c5, rfl⟩ := list_6 hcl
      have e0 : wr.cell? ⟨b, off + j * 6, none⟩ = some c0 := hcat 0 _ rfl
      have e1 : wr.cell? ⟨b, off + j * 6 + 1, none⟩ = some c1 := hcat 1 _ rfl
      have e2 : wr.cell? ⟨b, off + j * 6 + 2, none⟩ = some c2 := hcat 2 _ rfl
      have e3 : wr.cell? ⟨b, off + j * 6 + 3, none⟩ = some c3 := hcat 3 _ rfl
      have e4 : wr.cell? ⟨b, off + j * 6 + 4, none⟩ = some c4 := hcat 4 _ rfl
      have e5 : wr.cell? ⟨b, off + j * 6 + 5, none⟩ = some c5 := hcat 5 _ rfl
      have hblt := Nat.lt_of_lt_of_le (HF.out b hbF) Hb.out.size
      have HR := hide hR
      have hbz := Hb.out.size
      clear hx hR hcat hFk hbF hcl
      go_wp2_with fail
      refine Calls.mono (c_Rul D x _ Fk _ HR.out (Hbl.out x (List.mem_of_getElem? Hx.out))) ?_
      rintro en w2 ⟨us, F2, rfl, hR2, hf2, hb2⟩
      obtain ⟨u0, u1, u2, u3, u4, u5, rfl⟩ := list_6 ((RulR.good D).len hR2)
      have ho := RulR.one hR2
      have o0 := ho u0 (by simp)
      have o1 := ho u1 (by simp)
      have o2 := ho u2 (by simp)
      have o3 := ho u3 (by simp)
      have o4 := ho u4 (by simp)
      have o5 := ho u5 (by simp)
      obtain ⟨cs, hcs, hcz⟩ := Hbk.out
      have hcs2 : w2.heap[w.heap.size]? = some (.cells cs 32 (0, 0)) := blk_below hcs hb2 (blk_lt hcs)
      have q0 := cell_at (i := j * 6) hcs2 (by omega)
      have q1 := cell_at (i := j * 6 + 1) hcs2 (by omega)
      have q2 := cell_at (i := j * 6 + 2) hcs2 (by omega)
      have q3 := cell_at (i := j * 6 + 3) hcs2 (by omega)
      have q4 := cell_at (i := j * 6 + 4) hcs2 (by omega)
      have q5 := cell_at (i := j * 6 + 5) hcs2 (by omega)
      have g0 := frozen_of_row w2 w.heap.size (j * 6) _ _ hcs2
      have g1 := frozen_of_row w2 w.heap.size (j * 6 + 1) _ _ hcs2
      have g2 := frozen_of_row w2 w.heap.size (j * 6 + 2) _ _ hcs2
      have g3 := frozen_of_row w2 w.heap.size (j * 6 + 3) _ _ hcs2
      have g4 := frozen_of_row w2 w.heap.size (j * 6 + 4) _ _ hcs2
      have g5 := frozen_of_row w2 w.heap.size (j * 6 + 5) _ _ hcs2
      have HB2 := hide hb2
      have HR2 := hide hR2
      have Hf2 := hide hf2
      have Hcs0 := hide hcs
      clear hb2 hR2 hf2 hcs hcs2 ho
      go_wp2_with fail
      have hst := copy_step (w := w) (RulR.good D) Hx.out Hel.out Hfr.out Hcs0.out hcz Hb.out HB2.out HR2.out Hf2.out rfl
      exact ⟨⟨j + 1, F' ++ F2, by omega, by go_num, hide hst.1, hide hst.2.1, hide hst.2.2.1, hide hst.2.2.2⟩, by simp [intOf]; omega⟩
    · have hjl : j = l.length := by omega
      subst hjl
      have Hel' : Hid (ElR 6 (RulR D) wr w.heap.size 0 l F') := by have := Hel.out; rw [List.take_length] at this; exact hide this
      go_wp2_with fail
      go_ret
      obtain ⟨cs, hcs, _⟩ := Hbk.out
      obtain ⟨G, hG, hGf⟩ := copy_done (w := w) (by unfold maxLen; omega) Hel'.out Hfr.out hcs
      exact ⟨_, G, rfl, hG, hGf, Hb.out⟩
structure Grm where
  symbols : List Sym
  rules : List Rul
def GrmR (D : Nat) : CR Grm := fun w x cs F => ∃ (v0 : Value) (F0 : List Nat) (v1 : Value) (F1 : List Nat), cs.length = 2 ∧ (cs[0]? = some v0 ∧ SlR 2 (SymR D) w x.symbols v0 F0) ∧ (cs[1]? = some v1 ∧ SlR 6 (RulR D) w x.rules v1 F1) ∧ F = F0 ++ (F1)
theorem GrmR.good (D : Nat) : Good 2 (GrmR D) where
  len := fun {w x cs F} h => by
    obtain ⟨v0, F0, v1, F1, hl, ⟨h0, g0⟩, ⟨h1, g1⟩, rfl⟩ := h
    exact hl
  frame := fun {w w' x cs F} h he hz => by
    obtain ⟨v0, F0, v1, F1, hl, ⟨h0, g0⟩, ⟨h1, g1⟩, rfl⟩ := h
    exact ⟨v0, F0, v1, F1, hl, ⟨h0, g0.frame (SymR.good D) (fun k hk' => he k (by simp only [List.mem_append]; simp [hk'])) hz⟩, ⟨h1, g1.frame (RulR.good D) (fun k hk' => he k (by simp only [List.mem_append]; simp [hk'])) hz⟩, rfl⟩
  lt := fun {w x cs F} h b hb => by
    obtain ⟨v0, F0, v1, F1, hl, ⟨h0, g0⟩, ⟨h1, g1⟩, rfl⟩ := h
    rcases List.mem_append.1 hb with hb | hb
    · exact g0.lt (SymR.good D) b hb
    · exact g1.lt (RulR.good D) b hb
theorem GrmR.up {D : Nat} {w : World} {x : Grm} {cs : List Value} {F : List Nat} (h : GrmR D w x cs F) (D' : Nat) (hd : D ≤ D') : GrmR D' w x cs F := by
  obtain ⟨v0, F0, v1, F1, hl, ⟨h0, g0⟩, ⟨h1, g1⟩, rfl⟩ := h
  exact ⟨v0, F0, v1, F1, hl, ⟨h0, g0.mono fun _ _ _ q => SymR.up q _ hd⟩, ⟨h1, g1.mono fun _ _ _ q => RulR.up q _ hd⟩, rfl⟩
theorem GrmR.one {D : Nat} {w : World} {x : Grm} {cs : List Value} {F : List Nat} (h : GrmR D w x cs F) : ∀ v ∈ cs, v.oneCell' = true := by
  obtain ⟨c0, c1, rfl⟩ := list2 ((GrmR.good D).len h)
  obtain ⟨v0, F0, v1, F1, hl, ⟨h0, g0⟩, ⟨h1, g1⟩, rfl⟩ := h
  intro v hv
  simp only [List.mem_cons, List.not_mem_nil, or_false] at hv
  rcases hv with rfl | rfl
  · obtain ⟨A, cap, hv, _, _⟩ := g0.form
    obtain rfl := Option.some.inj h0
    rw [hv]
    rfl
  · obtain ⟨A, cap, hv, _, _⟩ := g1.form
    obtain rfl := Option.some.inj h1
    rw [hv]
    rfl
def bulkGrm (D : Nat) (x : Grm) : Int := (x.symbols.length + sumBy (bulkSym D) x.symbols) + (x.rules.length + sumBy (bulkRul D) x.rules)
theorem bulkGrm_nonneg (D : Nat) (x : Grm) : 0 ≤ bulkGrm D x := by unfold bulkGrm; have := sumBy_nonneg (bulkSym_nonneg D) x.symbols; have := sumBy_nonneg (bulkRul_nonneg D) x.rules; omega
theorem cells_Grm {H : Type} {enc : TypeId × Value → H} {w : World} {base : Nat} {sp : Nat → Bool} {held : Bool} (fuel : Nat) {cs : List Value} {x : DataW H × List MemPlace}
    (h : DataW.trod enc Tryz.prog w base sp held fuel 42 cs = some x) : ∃ y F, GrmR fuel w y cs F := by
  have ht := Tryz.underlying42
  have hl := (trod_len ht h).trans (show Tryz.prog.cellsOf 42 = 2 by kernel_rfl)
  obtain ⟨c0, c1, rfl⟩ := list2 hl
  obtain ⟨n0, y0, hn0, k0⟩ := trod_field 0 _ ht h rfl
  have k0 : DataW.trod enc Tryz.prog w base sp held n0 39 (([c0, c1].drop 0).take (Tryz.prog.cellsOf 39)) = some y0 := k0
  rw [show Tryz.prog.cellsOf 39 = 1 by kernel_rfl] at k0
  obtain ⟨z0, v0, G0, b0, r0⟩ := open_SlR (n := 2) Tryz.underlying39 (by kernel_rfl) (by omega) (SymR n0) k0 (fun m cs y hm hy => by
      obtain ⟨e, F, he⟩ := cells_Sym m hy
      exact ⟨e, F, he.up n0 (by omega)⟩)
  obtain ⟨n1, y1, hn1, k1⟩ := trod_field 1 _ ht h rfl
  have k1 : DataW.trod enc Tryz.prog w base sp held n1 40 (([c0, c1].drop 1).take (Tryz.prog.cellsOf 40)) = some y1 := k1
  rw [show Tryz.prog.cellsOf 40 = 1 by kernel_rfl] at k1
  obtain ⟨z1, v1, G1, b1, r1⟩ := open_SlR (n := 6) Tryz.underlying40 (by kernel_rfl) (by omega) (RulR n1) k1 (fun m cs y hm hy => by
      obtain ⟨e, F, he⟩ := cells_Rul m hy
      exact ⟨e, F, he.up n1 (by omega)⟩)
  simp at b0 b1
  subst b0 b1
  exact ⟨⟨z0, z1⟩, _, _, G0, _, G1, rfl, ⟨rfl, r0.mono fun x cs F (hx : SymR n0 w x cs F) => hx.up fuel (by omega)⟩, ⟨rfl, r1.mono fun x cs F (hx : RulR n1 w x cs F) => hx.up fuel (by omega)⟩, rfl⟩
set_option maxRecDepth 100000 in
theorem open_Grm {H : Type} {enc : TypeId × Value → H} {w : World} {C base : Nat} {sp : Nat → Bool} {held : Bool} {v : Value} {d : DataW H} {p : List MemPlace} (hv : Value.okWide Tryz.prog w .any C 42 v)
    (h : DataW.Trod enc Tryz.prog w base sp held 42 v d p) : ∃ (D : Nat) (y : Grm) (cs : List Value) (F : List Nat), v = .agg cs.toArray ∧ GrmR D w y cs F := by
  obtain ⟨cs, fuel, x, rfl, hf⟩ := okWide_cells Tryz.underlying42 hv h
  obtain ⟨y, F, he⟩ := cells_Grm fuel hf
  exact ⟨fuel, y, _, F, rfl, he⟩
set_option maxRecDepth 100000 in
theorem z_Grm (D : Nat) (x : Grm) (cs : List Value) (F : List Nat) (w : World) (L : Int) (h : GrmR D w x cs F) (h0 : 0 ≤ L) (h1 : L ≤ 1048576) :
    Calls Tryz.prog 14 #[.agg cs.toArray, .int .i64 L] w fun en w' => Sized (bulkGrm D x) L en ∧ Below w.heap.size w w' := by
  obtain ⟨c0, c1, rfl⟩ := list2 ((GrmR.good D).len h)
  obtain ⟨v0, F0, v1, F1, _, ⟨h0, g0⟩, ⟨h1, g1⟩, rfl⟩ := h
  obtain rfl := Option.some.inj h0
  obtain rfl := Option.some.inj h1
  have HF0 := hide (g0.lt (SymR.good D))
  have HX0 : Hid (∀ W : World, Below w.heap.size w W → SlR 2 (SymR D) W x.symbols c0 F0) := hide fun W hW => g0.below (SymR.good D) hW HF0.out
  clear g0
  have HF1 := hide (g1.lt (RulR.good D))
  have HX1 : Hid (∀ W : World, Below w.heap.size w W → SlR 6 (RulR D) W x.rules c1 F1) := hide fun W hW => g1.below (RulR.good D) hW HF1.out
  clear g1
  obtain ⟨C, hz0, hw0⟩ := boxes1 w [c0, c1] 42
  show Calls _ _ #[.agg #[c0, c1], .int .i64 L] w _
  go_enter Tryz.func14, Tryz.ntmps14
  go_wp2_with fail
  generalize w.alloc (Obj.cells #[c0, c1] 42) = W0 at C hz0 hw0 ⊢
  have hn0 : (w.heap.size + 1) ≤ W0.heap.size := by omega
  have Hw : Hid (∀ W : World, Below (w.heap.size + 1) W0 W → Below w.heap.size w W) := hide fun W h => hw0.trans (h.mono (by omega))
  have hB0 : Below (w.heap.size + 1) W0 W0 := Below.refl _ _
  have e0 := cell_rule C (n := (w.heap.size + 1)) (by omega) 0 (v := c0) rfl
  have e1 := cell_rule C (n := (w.heap.size + 1)) (by omega) 1 (v := c1) rfl
  clear C hz0 hw0
  refine Calls.mono (zs_Sym D x.symbols _ F0 _ (L) (HX0.out _ (Hw.out _ hB0)) (by omega) (by omega)) ?_
  rintro en W1 ⟨⟨r0, rfl, hr⟩, hb⟩
  have hB1 : Below (w.heap.size + 1) W0 W1 := below_step hB0 hn0 hb
  clear hb
  rcases hr with rfl | ⟨hr0, hq0⟩
  · go_wp2_with fail
    go_ret
    exact ⟨⟨-1, rfl, .inl rfl⟩, Hw.out _ hB1⟩
  have hn0 := sumBy_nonneg (bulkSym_nonneg D) x.symbols
  have hl0 : r0 ≤ 1048576 := by omega
  have Hq0 := hide hq0
  clear hq0 hn0
  go_wp2_with fail
  refine Calls.mono (zs_Rul D x.rules _ F1 _ (r0) (HX1.out _ (Hw.out _ hB1)) (by omega) (by omega)) ?_
  rintro en W2 ⟨⟨r1, rfl, hr⟩, hb⟩
  have hB2 : Below (w.heap.size + 1) W0 W2 := below_step hB1 hn0 hb
  clear hb
  rcases hr with rfl | ⟨hr1, hq1⟩
  · go_wp2_with fail
    go_ret
    exact ⟨⟨-1, rfl, .inl rfl⟩, Hw.out _ hB2⟩
  have hn1 := sumBy_nonneg (bulkRul_nonneg D) x.rules
  have hl1 : r1 ≤ 1048576 := by omega
  have Hq1 := hide hq1
  clear hq1 hn1
  go_wp2_with fail
  go_ret
  exact ⟨⟨_, rfl, .inr ⟨by omega, by have := Hq0.out; have := Hq1.out; unfold bulkGrm; omega⟩⟩, Hw.out _ hB2⟩
set_option maxRecDepth 100000 in
theorem e_Grm (D : Nat) (x : Grm) (cs cs' : List Value) (F F' : List Nat) (w : World) (h : GrmR D w x cs F) (h' : GrmR D w x cs' F') :
    Calls Tryz.prog 18 #[.agg cs.toArray, .agg cs'.toArray] w fun en w' => en = .returned (.bool true) ∧ Below w.heap.size w w' := by
  obtain ⟨a0, a1, rfl⟩ := list2 ((GrmR.good D).len h)
  obtain ⟨v0, F0, v1, F1, _, ⟨h0, g0⟩, ⟨h1, g1⟩, rfl⟩ := h
  obtain rfl := Option.some.inj h0
  obtain rfl := Option.some.inj h1
  obtain ⟨b0, b1, rfl⟩ := list2 ((GrmR.good D).len h')
  obtain ⟨pv0, pF0, pv1, pF1, _, ⟨ph0, pg0⟩, ⟨ph1, pg1⟩, rfl⟩ := h'
  obtain rfl := Option.some.inj ph0
  obtain rfl := Option.some.inj ph1
  have HF0 := hide (g0.lt (SymR.good D))
  have HXF0 : Hid (∀ W : World, Below w.heap.size w W → SlR 2 (SymR D) W x.symbols a0 F0) := hide fun W hW => g0.below (SymR.good D) hW HF0.out
  clear g0
  have HF1 := hide (g1.lt (RulR.good D))
  have HXF1 : Hid (∀ W : World, Below w.heap.size w W → SlR 6 (RulR D) W x.rules a1 F1) := hide fun W hW => g1.below (RulR.good D) hW HF1.out
  clear g1
  have HpF0 := hide (pg0.lt (SymR.good D))
  have HXpF0 : Hid (∀ W : World, Below w.heap.size w W → SlR 2 (SymR D) W x.symbols b0 pF0) := hide fun W hW => pg0.below (SymR.good D) hW HpF0.out
  clear pg0
  have HpF1 := hide (pg1.lt (RulR.good D))
  have HXpF1 : Hid (∀ W : World, Below w.heap.size w W → SlR 6 (RulR D) W x.rules b1 pF1) := hide fun W hW => pg1.below (RulR.good D) hW HpF1.out
  clear pg1
  obtain ⟨C1, C2, hz0, hw0⟩ := boxes2 w [a0, a1] [b0, b1] 48 48
  show Calls _ _ #[.agg #[a0, a1], .agg #[b0, b1]] w _
  go_enter Tryz.func18, Tryz.ntmps18
  go_wp2_with fail
  generalize (w.alloc (Obj.cells #[a0, a1] 48)).alloc (Obj.cells #[b0, b1] 48) = W0 at C1 C2 hz0 hw0 ⊢
  have hn0 : (w.heap.size + 2) ≤ W0.heap.size := by omega
  have Hw : Hid (∀ W : World, Below (w.heap.size + 2) W0 W → Below w.heap.size w W) := hide fun W h => hw0.trans (h.mono (by omega))
  have hB0 : Below (w.heap.size + 2) W0 W0 := Below.refl _ _
  have e0 := cell_rule C1 (n := (w.heap.size + 2)) (by omega) 0 (v := a0) rfl
  have g0 := cell_rule C2 (n := (w.heap.size + 2)) (by omega) 0 (v := b0) rfl
  have e1 := cell_rule C1 (n := (w.heap.size + 2)) (by omega) 1 (v := a1) rfl
  have g1 := cell_rule C2 (n := (w.heap.size + 2)) (by omega) 1 (v := b1) rfl
  clear C1 C2 hz0 hw0
  refine Calls.mono (es_Sym D x.symbols _ _ F0 pF0 _ (HXF0.out _ (Hw.out _ hB0)) (HXpF0.out _ (Hw.out _ hB0))) ?_
  rintro en W1 ⟨rfl, hb⟩
  have hB1 : Below (w.heap.size + 2) W0 W1 := below_step hB0 hn0 hb
  clear hb
  go_wp2_with fail
  refine Calls.mono (es_Rul D x.rules _ _ F1 pF1 _ (HXF1.out _ (Hw.out _ hB1)) (HXpF1.out _ (Hw.out _ hB1))) ?_
  rintro en W2 ⟨rfl, hb⟩
  have hB2 : Below (w.heap.size + 2) W0 W2 := below_step hB1 hn0 hb
  clear hb
  go_wp2_with fail
  go_ret
  exact ⟨rfl, Hw.out _ hB2⟩
set_option maxRecDepth 100000 in
theorem c_Grm (D : Nat) (x : Grm) (cs : List Value) (F : List Nat) (w : World) (h : GrmR D w x cs F) (hbk : bulkGrm D x ≤ 1048576) :
    Calls Tryz.prog 16 #[.agg cs.toArray] w fun en w' => ∃ us F', en = .returned (.agg (List.toArray us)) ∧ GrmR D w' x us F' ∧ Fresh w.heap.size w' F' ∧ Below w.heap.size w w' := by
  obtain ⟨c0, c1, rfl⟩ := list2 ((GrmR.good D).len h)
  obtain ⟨v0, F0, v1, F1, _, ⟨h0, g0⟩, ⟨h1, g1⟩, rfl⟩ := h
  obtain rfl := Option.some.inj h0
  obtain rfl := Option.some.inj h1
  have Hbk := hide hbk
  clear hbk
  have HF0 := hide (g0.lt (SymR.good D))
  have HX0 : Hid (∀ W : World, Below w.heap.size w W → SlR 2 (SymR D) W x.symbols c0 F0) := hide fun W hW => g0.below (SymR.good D) hW HF0.out
  clear g0
  have HF1 := hide (g1.lt (RulR.good D))
  have HX1 : Hid (∀ W : World, Below w.heap.size w W → SlR 6 (RulR D) W x.rules c1 F1) := hide fun W hW => g1.below (RulR.good D) hW HF1.out
  clear g1
  have Hb0 : Hid (x.symbols.length ≤ 1048576 ∧ sumBy (bulkSym D) x.symbols ≤ 1048576) := hide (by
    have hb := Hbk.out
    unfold bulkGrm at hb
    have := sumBy_nonneg (bulkSym_nonneg D) x.symbols; have := sumBy_nonneg (bulkRul_nonneg D) x.rules
    omega)
  have Hb1 : Hid (x.rules.length ≤ 1048576 ∧ sumBy (bulkRul D) x.rules ≤ 1048576) := hide (by
    have hb := Hbk.out
    unfold bulkGrm at hb
    have := sumBy_nonneg (bulkSym_nonneg D) x.symbols; have := sumBy_nonneg (bulkRul_nonneg D) x.rules
    omega)
  obtain ⟨C, hz0, hw0⟩ := boxes1 w [c0, c1] 42
  show Calls _ _ #[.agg #[c0, c1]] w _
  go_enter Tryz.func16, Tryz.ntmps16
  go_wp2_with fail
  have hA1 := heap_alloc_new (w.alloc (Obj.cells #[c0, c1] 42)) (Obj.cells #[.slice none 0 0, .slice none 0 0] 48)
  have hA2 := heap_alloc_new ((w.alloc (Obj.cells #[c0, c1] 42)).alloc (Obj.cells #[.slice none 0 0, .slice none 0 0] 48)) (Obj.cells #[.slice none 0 0, .slice none 0 0] 48)
  have hA0 : Below (w.heap.size + 1) (w.alloc (Obj.cells #[c0, c1] 42)) (((w.alloc (Obj.cells #[c0, c1] 42)).alloc (Obj.cells #[.slice none 0 0, .slice none 0 0] 48)).alloc (Obj.cells #[.slice none 0 0, .slice none 0 0] 48)) := ((Below.refl _ _).alloc (Nat.le_of_eq hz0.symm) _).alloc (by simp) _
  rw [hz0] at hA1
  have hA3 := (Below.heap_alloc ((w.alloc (Obj.cells #[c0, c1] 42)).alloc (Obj.cells #[.slice none 0 0, .slice none 0 0] 48)) (Obj.cells #[.slice none 0 0, .slice none 0 0] 48) (w.heap.size + 1) (by simp)).trans hA1
  have hz2 : (((w.alloc (Obj.cells #[c0, c1] 42)).alloc (Obj.cells #[.slice none 0 0, .slice none 0 0] 48)).alloc (Obj.cells #[.slice none 0 0, .slice none 0 0] 48)).heap.size = w.heap.size + 3 := by simp
  rw [World.size_alloc, hz0] at hA2
  clear hA1
  have hB0 := hA0
  generalize ((w.alloc (Obj.cells #[c0, c1] 42)).alloc (Obj.cells #[.slice none 0 0, .slice none 0 0] 48)).alloc (Obj.cells #[.slice none 0 0, .slice none 0 0] 48) = W0 at hA0 hA2 hA3 hz2 hB0 ⊢
  generalize w.alloc (Obj.cells #[c0, c1] 42) = U at C hz0 hw0 hA0 hB0
  have hn0 : (w.heap.size + 1) ≤ U.heap.size := by omega
  have Hw : Hid (∀ W : World, Below (w.heap.size + 1) U W → Below w.heap.size w W) := hide fun W h => hw0.trans (h.mono (by omega))
  have e0 := cell_rule C (n := (w.heap.size + 1)) (by omega) 0 (v := c0) rfl
  have e1 := cell_rule C (n := (w.heap.size + 1)) (by omega) 1 (v := c1) rfl
  have hZ0 : w.heap.size + 3 ≤ W0.heap.size := by omega
  clear C hz0 hw0 hA0 hz2
  have HR3_0 := hide hA2
  have HR2_0 := hide hA3
  clear hA2 hA3
  have hst := fun (w : World) (a : Addr) (v : Value) (m : Mode) (hv : v.oneCell' = true) => run_store Tryz.prog w a v m hv
  refine Calls.mono (cs_Sym D x.symbols _ F0 _ (HX0.out _ (Hw.out _ hB0)) Hb0.out.1 Hb0.out.2) ?_
  rintro en W1 ⟨u0_0, G0, rfl, hR, hf, hb⟩
  obtain ⟨A_0, k_0, rfl, _, _⟩ := hR.form
  have HR0 := hide hR
  have Hf0 := hide hf
  have hY1 : Below (w.heap.size + 1) U W1 := below_step hB0 hn0 hb
  have HL0 : Hid (Later (w.heap.size + 3) W0 W1) := hide (Later.of_below hb)
  have h3 := blk_below HR3_0.out hb (by omega)
  have h2 := blk_below HR2_0.out hb (by omega)
  have hY := hb.size
  have hS1 : w.heap.size + 3 ≤ W1.heap.size := by omega
  clear hR hf hb hY
  have q0 := cell_at (i := 0) h3 (by simp)
  have g0 := frozen_of_row W1 (w.heap.size + 1 + 1) 0 _ _ h3
  simp only [Array.getD_eq_getD_getElem?, List.getElem?_toArray, List.getElem?_cons_succ, List.getElem?_cons_zero, Option.getD_some] at q0
  have H3 := hide h3
  have H2 := hide h2
  clear h3 h2
  go_wp2_with fail
  show Calls _ _ _ (putCells W1 (w.heap.size + 1 + 1) 0 [.slice A_0 x.symbols.length k_0]) _
  have hP := put_spec [.slice A_0 x.symbols.length k_0] 0 W1 _ H3.out (by simp)
  have h3 := put_blk [.slice A_0 x.symbols.length k_0] 0 W1 _ H3.out
  simp only [setMany, List.setIfInBounds_toArray, List.set_cons_zero, List.set_cons_succ] at h3
  have hBn : Below (w.heap.size + 1) U (putCells W1 (w.heap.size + 1 + 1) 0 [.slice A_0 x.symbols.length k_0]) := hY1.trans (hP.below (by omega))
  have hLn : Later (w.heap.size + 3) W1 (putCells W1 (w.heap.size + 1 + 1) 0 [.slice A_0 x.symbols.length k_0]) := Later.of_put hP (by omega)
  have h2 := (hP.far (w.heap.size + 1) (by omega)).trans H2.out
  have hZn : w.heap.size + 3 ≤ (putCells W1 (w.heap.size + 1 + 1) 0 [.slice A_0 x.symbols.length k_0]).heap.size := by rw [hP.size]; exact hS1
  clear hP q0 g0
  generalize putCells W1 (w.heap.size + 1 + 1) 0 [.slice A_0 x.symbols.length k_0] = V1 at h3 h2 hBn hLn hZn ⊢
  have hB1 := hBn
  have HK0 := hide hLn
  have HR3_1 := hide h3
  have HR2_1 := hide h2
  have hT1 := hZn
  clear hBn hLn h3 h2 hZn hY1 hS1
  refine Calls.mono (cs_Rul D x.rules _ F1 _ (HX1.out _ (Hw.out _ hB1)) Hb1.out.1 Hb1.out.2) ?_
  rintro en W2 ⟨u1_0, G1, rfl, hR, hf, hb⟩
  obtain ⟨A_1, k_1, rfl, _, _⟩ := hR.form
  have HR1 := hide hR
  have Hf1 := hide hf
  have hY2 : Below (w.heap.size + 1) U W2 := below_step hB1 hn0 hb
  have HL1 : Hid (Later (w.heap.size + 3) V1 W2) := hide (Later.of_below hb)
  have h3 := blk_below HR3_1.out hb (by omega)
  have h2 := blk_below HR2_1.out hb (by omega)
  have hY := hb.size
  have hS2 : w.heap.size + 3 ≤ W2.heap.size := by omega
  clear hR hf hb hY
  have q0 := cell_at (i := 0) h3 (by simp)
  have g0 := frozen_of_row W2 (w.heap.size + 1 + 1) 0 _ _ h3
  have q1 := cell_at (i := 1) h3 (by simp)
  have g1 := frozen_of_row W2 (w.heap.size + 1 + 1) 1 _ _ h3
  have r0 := cell_at (i := 0) h2 (by simp)
  have s0 := frozen_of_row W2 (w.heap.size + 1) 0 _ _ h2
  have r1 := cell_at (i := 1) h2 (by simp)
  have s1 := frozen_of_row W2 (w.heap.size + 1) 1 _ _ h2
  simp only [Array.getD_eq_getD_getElem?, List.getElem?_toArray, List.getElem?_cons_succ, List.getElem?_cons_zero, Option.getD_some] at q0 q1 r0 r1
  have H3 := hide h3
  have H2 := hide h2
  clear h3 h2
  go_wp2_with fail
  change bodyPost _ _ _ _ _ (putCells (putCells W2 (w.heap.size + 1 + 1) 1 [.slice A_1 x.rules.length k_1]) (w.heap.size + 1) 0 [.slice A_0 x.symbols.length k_0, .slice A_1 x.rules.length k_1])
  have hP := put_spec [.slice A_1 x.rules.length k_1] 1 W2 _ H3.out (by simp)
  have hQ := put_spec [.slice A_0 x.symbols.length k_0, .slice A_1 x.rules.length k_1] 0 (putCells W2 (w.heap.size + 1 + 1) 1 [.slice A_1 x.rules.length k_1]) _ ((hP.far (w.heap.size + 1) (by omega)).trans H2.out) (by simp)
  have hB : Below (w.heap.size + 1) U (putCells (putCells W2 (w.heap.size + 1 + 1) 1 [.slice A_1 x.rules.length k_1]) (w.heap.size + 1) 0 [.slice A_0 x.symbols.length k_0, .slice A_1 x.rules.length k_1]) := hY2.trans ((hP.below (by omega)).trans (hQ.below (by omega)))
  have hL : Later (w.heap.size + 3) W2 (putCells (putCells W2 (w.heap.size + 1 + 1) 1 [.slice A_1 x.rules.length k_1]) (w.heap.size + 1) 0 [.slice A_0 x.symbols.length k_0, .slice A_1 x.rules.length k_1]) := (Later.of_put hP (by omega)).trans (Later.of_put hQ (by omega))
  have hC := hQ.cellsAt
  generalize putCells (putCells W2 (w.heap.size + 1 + 1) 1 [.slice A_1 x.rules.length k_1]) (w.heap.size + 1) 0 [.slice A_0 x.symbols.length k_0, .slice A_1 x.rules.length k_1] = WF at hB hL hC ⊢
  have x0 : WF.cell? ⟨(w.heap.size + 1), 0, none⟩ = some (.slice A_0 x.symbols.length k_0) := hC 0 _ rfl
  have x1 : WF.cell? ⟨(w.heap.size + 1), 1, none⟩ = some (.slice A_1 x.rules.length k_1) := (show WF.cell? ⟨(w.heap.size + 1), 0 + 1, none⟩ = _ from hC 1 _ rfl)
  have hFin : GrmR D WF x [.slice A_0 x.symbols.length k_0, .slice A_1 x.rules.length k_1] (G0 ++ G1) := ⟨_, G0, _, G1, rfl, ⟨rfl, HR0.out.later (SymR.good D) Hf0.out (HK0.out.trans (HL1.out.trans (hL))) (by omega)⟩, ⟨rfl, HR1.out.later (RulR.good D) Hf1.out (hL) (by omega)⟩, rfl⟩
  have hFr : Fresh w.heap.size WF (G0 ++ G1) := ((Hf0.out.later (HK0.out.trans (HL1.out.trans (hL))) (by omega)).append (Hf1.out.later (hL) (by omega)) (fun b hb => by have := Hf0.out.lt b hb; have := HK0.out.size; omega) (by have := HK0.out.size; have := HL0.out.size; omega)).mono (by omega)
  exact bodyPost_ret (v := .agg #[.slice A_0 x.symbols.length k_0, .slice A_1 x.rules.length k_1]) (by simp [results, Tryz.results16, go_sem, x0, x1]) rfl ⟨[.slice A_0 x.symbols.length k_0, .slice A_1 x.rules.length k_1], (G0 ++ G1), rfl, hFin, hFr, Hw.out _ hB⟩
end Go.Proofs.YtjddmboaaebbiaaGreatDoor

/- Rules and grammars overwritten by marks, and held against them. Conditions: numbers from 1 to 2^40. -/
namespace Go.Proofs.YtjddmboaaebbiaaGreatDoor
set_option linter.unusedSimpArgs false
set_option linter.unusedVariables false
set_option maxRecDepth 100000
open Go.RowKit Go.WideShapes
set_option linter.unusedVariables false

def mk_Rul (D k : Nat) (x : Rul) : Rul := ⟨mkT (k), mkT (k + 1), marks (k + 2) x.right.length, (((k + 2 + (x.right.length) : Nat) : Int) % 3 == 0), mkL (mk_Eqn D) (ct_Eqn D) (k + 3 + (x.right.length)) x.eqs, mkL (mk_Con D) (ct_Con D) (k + 3 + (x.right.length) + (ctL (ct_Eqn D) x.eqs)) x.cons⟩
def ct_Rul (D : Nat) (x : Rul) : Nat := 3 + (x.right.length) + (ctL (ct_Eqn D) x.eqs) + (ctL (ct_Con D) x.cons)
def sk_Rul (D k : Nat) (x : Rul) : Rul := { x with right := marks (k) x.right.length, eqs := mkL (mk_Eqn D) (ct_Eqn D) (k + x.right.length) x.eqs, cons := mkL (mk_Con D) (ct_Con D) (k + x.right.length + ctL (ct_Eqn D) x.eqs) x.cons }
def sc_Rul (D : Nat) (x : Rul) : Nat := x.right.length + ctL (ct_Eqn D) x.eqs + ctL (ct_Con D) x.cons
set_option maxRecDepth 100000 in
set_option maxHeartbeats 4000000 in
theorem mm_Rul (D C k : Nat) (x : Rul) (cs : List Value) (F : List Nat) (w : World) (h : RulR D w x cs F) (hf : Fresh C w F) (hk : 1 ≤ k) (hkn : k + sc_Rul D x ≤ 1099511627776) :
    Calls Tryz.prog 11 #[.agg cs.toArray, .int .i64 k] w fun en w' => en = .returned (.int .i64 ((k + sc_Rul D x : Nat) : Int)) ∧ RulR D w' (sk_Rul D k x) cs F ∧ Fresh C w' F ∧ Apart F w w' := by
  obtain ⟨c0, c1, c2, c3, c4, c5, rfl⟩ := list_6 ((RulR.good D).len h)
  obtain ⟨v2, F2, v4, F4, v5, F5, hl, hok, g0, g1, ⟨g2, hs2⟩, g3, ⟨g4, hs4⟩, ⟨g5, hs5⟩, rfl⟩ := h
  obtain rfl : c2 = v2 := by simpa using g2
  obtain ⟨A2, cap2, rfl, _, _⟩ := hs2.form
  obtain rfl : c4 = v4 := by simpa using g4
  obtain ⟨A4, cap4, rfl, _, _⟩ := hs4.form
  obtain rfl : c5 = v5 := by simpa using g5
  obtain ⟨A5, cap5, rfl, _, _⟩ := hs5.form
  have hct : sc_Rul D x = x.right.length + ctL (ct_Eqn D) x.eqs + ctL (ct_Con D) x.cons := by simp only [sc_Rul]
  have Hct := hide hct
  rw [hct] at hkn
  clear hct
  have RF2 : Hid (Fresh C w F2) := hide (hf.left)
  have RF4 : Hid (Fresh C w F4) := hide (hf.right.left)
  have RF5 : Hid (Fresh C w F5) := hide (hf.right.right)
  have DF2F4 : Hid (∀ k ∈ F2, k ∉ F4) := hide (fun k h1 h2 => hf.dis k h1 (by simp [h2]))
  have DF2F5 : Hid (∀ k ∈ F2, k ∉ F5) := hide (fun k h1 h2 => hf.dis k h1 (by simp [h2]))
  have DF4F5 : Hid (∀ k ∈ F4, k ∉ F5) := hide (fun k h1 h2 => hf.right.dis k h1 (by simp [h2]))
  obtain ⟨C0, hz0, hw0⟩ := boxes1 w [c0, c1, .slice A2 x.right.length cap2, c3, .slice A4 x.eqs.length cap4, .slice A5 x.cons.length cap5] 32
  show Calls _ _ #[.agg #[c0, c1, .slice A2 x.right.length cap2, c3, .slice A4 x.eqs.length cap4, .slice A5 x.cons.length cap5], .int .i64 k] w _
  go_enter Tryz.func11, Tryz.ntmps11
  go_wp2_with fail
  generalize w.alloc (Obj.cells #[c0, c1, .slice A2 x.right.length cap2, c3, .slice A4 x.eqs.length cap4, .slice A5 x.cons.length cap5] 32) = W0 at C0 hz0 hw0 ⊢
  have OF2 := hide (hs2.below (StrR.good D) hw0 (hs2.lt (StrR.good D)))
  have rF2 := RF2.out.below hw0
  have LtF2 : Hid (∀ k ∈ F2, k ≠ w.heap.size) := hide fun k hk e => by have := RF2.out.lt k hk; omega
  clear RF2
  have RF2 := hide rF2
  clear rF2 hs2
  have OF4 := hide (hs4.below (EqnR.good D) hw0 (hs4.lt (EqnR.good D)))
  have rF4 := RF4.out.below hw0
  have LtF4 : Hid (∀ k ∈ F4, k ≠ w.heap.size) := hide fun k hk e => by have := RF4.out.lt k hk; omega
  clear RF4
  have RF4 := hide rF4
  clear rF4 hs4
  have OF5 := hide (hs5.below (ConR.good D) hw0 (hs5.lt (ConR.good D)))
  have rF5 := RF5.out.below hw0
  have LtF5 : Hid (∀ k ∈ F5, k ≠ w.heap.size) := hide fun k hk e => by have := RF5.out.lt k hk; omega
  clear RF5
  have RF5 := hide rF5
  clear rF5 hs5
  have c_2 : W0.cell? ⟨w.heap.size, 2, none⟩ = some (.slice A2 x.right.length cap2) := by have := C0 2 _ rfl; rwa [Nat.zero_add] at this
  have c_4 : W0.cell? ⟨w.heap.size, 4, none⟩ = some (.slice A4 x.eqs.length cap4) := by have := C0 4 _ rfl; rwa [Nat.zero_add] at this
  have c_5 : W0.cell? ⟨w.heap.size, 5, none⟩ = some (.slice A5 x.cons.length cap5) := by have := C0 5 _ rfl; rwa [Nat.zero_add] at this
  have hA0 : Apart (F2 ++ (F4 ++ (F5))) w W0 := Apart.of_below hw0
  have HA := hide hA0
  have hzz : w.heap.size < W0.heap.size := by omega
  clear C0 hz0 hw0 hA0 hf
  refine Calls.mono (m_Str D C (k) x.right _ F2 W0 OF2.out RF2.out (by omega) (by omega)) ?_
  rintro en W1 ⟨rfl, hOn, hRn, ha⟩
  have hOF4 := OF4.out.apart (EqnR.good D) ha (fun k h1 h2 => DF2F4.out k h2 h1)
  have hRF4 := RF4.out.apart ha (fun k h1 h2 => DF2F4.out k h2 h1)
  have hOF5 := OF5.out.apart (ConR.good D) ha (fun k h1 h2 => DF2F5.out k h2 h1)
  have hRF5 := RF5.out.apart ha (fun k h1 h2 => DF2F5.out k h2 h1)
  have cc_4 : W1.cell? ⟨w.heap.size, 4, none⟩ = some (.slice A4 x.eqs.length cap4) := (cell_same (ha.block w.heap.size hzz (fun hm => LtF2.out _ hm rfl)) _).trans c_4
  have cc_5 : W1.cell? ⟨w.heap.size, 5, none⟩ = some (.slice A5 x.cons.length cap5) := (cell_same (ha.block w.heap.size hzz (fun hm => LtF2.out _ hm rfl)) _).trans c_5
  clear c_2 c_4 c_5
  have c_4 := cc_4
  clear cc_4
  have c_5 := cc_5
  clear cc_5
  have hzy : w.heap.size < W1.heap.size := Nat.lt_of_lt_of_le hzz ha.size
  clear hzz
  have hzz := hzy
  clear hzy
  have hA := HA.out.trans (ha.more (fun k hk => by simp [hk]))
  clear HA ha
  have HA : Hid (Apart (F2 ++ (F4 ++ (F5))) w W1) := hide hA
  clear hA
  clear OF2 RF2 OF4 RF4 OF5 RF5
  have OF2 := hide hOn
  have RF2 := hide hRn
  have OF4 := hide hOF4
  have RF4 := hide hRF4
  have OF5 := hide hOF5
  have RF5 := hide hRF5
  clear hOn hRn hOF4 hRF4 hOF5 hRF5
  go_wp2_with fail
  refine Calls.mono (m_Eqn D C (k + x.right.length) x.eqs _ F4 W1 OF4.out RF4.out (by omega) (by omega)) ?_
  rintro en W2 ⟨rfl, hOn, hRn, ha⟩
  have hOF2 := OF2.out.apart (StrR.good D) ha DF2F4.out
  have hRF2 := RF2.out.apart ha DF2F4.out
  have hOF5 := OF5.out.apart (ConR.good D) ha (fun k h1 h2 => DF4F5.out k h2 h1)
  have hRF5 := RF5.out.apart ha (fun k h1 h2 => DF4F5.out k h2 h1)
  have cc_5 : W2.cell? ⟨w.heap.size, 5, none⟩ = some (.slice A5 x.cons.length cap5) := (cell_same (ha.block w.heap.size hzz (fun hm => LtF4.out _ hm rfl)) _).trans c_5
  clear c_4 c_5
  have c_5 := cc_5
  clear cc_5
  have hzy : w.heap.size < W2.heap.size := Nat.lt_of_lt_of_le hzz ha.size
  clear hzz
  have hzz := hzy
  clear hzy
  have hA := HA.out.trans (ha.more (fun k hk => by simp [hk]))
  clear HA ha
  have HA : Hid (Apart (F2 ++ (F4 ++ (F5))) w W2) := hide hA
  clear hA
  clear OF2 RF2 OF4 RF4 OF5 RF5
  have OF2 := hide hOF2
  have RF2 := hide hRF2
  have OF4 := hide hOn
  have RF4 := hide hRn
  have OF5 := hide hOF5
  have RF5 := hide hRF5
  clear hOn hRn hOF2 hRF2 hOF5 hRF5
  go_wp2_with fail
  refine Calls.mono (m_Con D C (k + x.right.length + ctL (ct_Eqn D) x.eqs) x.cons _ F5 W2 OF5.out RF5.out (by omega) (by omega)) ?_
  rintro en W3 ⟨rfl, hOn, hRn, ha⟩
  have hOF2 := OF2.out.apart (StrR.good D) ha DF2F5.out
  have hRF2 := RF2.out.apart ha DF2F5.out
  have hOF4 := OF4.out.apart (EqnR.good D) ha DF4F5.out
  have hRF4 := RF4.out.apart ha DF4F5.out
  clear c_5
  have hzy : w.heap.size < W3.heap.size := Nat.lt_of_lt_of_le hzz ha.size
  clear hzz
  have hzz := hzy
  clear hzy
  have hA := HA.out.trans (ha.more (fun k hk => by simp [hk]))
  clear HA ha
  have HA : Hid (Apart (F2 ++ (F4 ++ (F5))) w W3) := hide hA
  clear hA
  clear OF2 RF2 OF4 RF4 OF5 RF5
  have OF2 := hide hOF2
  have RF2 := hide hRF2
  have OF4 := hide hOF4
  have RF4 := hide hRF4
  have OF5 := hide hOn
  have RF5 := hide hRn
  clear hOn hRn hOF2 hRF2 hOF4 hRF4
  go_wp2_with fail
  go_ret
  refine ⟨ret_int (by rw [Hct.out]; first | done | rfl | omega), ⟨_, _, _, _, _, _, hl, ⟨hok.name, hok.left⟩, g0, g1, ⟨rfl, OF2.out⟩, g3, ⟨rfl, OF4.out⟩, ⟨rfl, OF5.out⟩, rfl⟩, (Fresh.glue RF2.out (Fresh.glue RF4.out RF5.out (DF4F5.out)) (fun k h1 h2 => by simp only [List.mem_append] at h2; rcases h2 with h2 | h2 <;> first | exact DF2F4.out k h1 h2 | exact DF2F5.out k h1 h2)), HA.out⟩
def sk_Grm (D k : Nat) (x : Grm) : Grm := { x with symbols := mkL (mk_Sym D) (ct_Sym D) (k) x.symbols, rules := mkL (mk_Rul D) (ct_Rul D) (k + ctL (ct_Sym D) x.symbols) x.rules }
def sc_Grm (D : Nat) (x : Grm) : Nat := ctL (ct_Sym D) x.symbols + ctL (ct_Rul D) x.rules
end Go.Proofs.YtjddmboaaebbiaaGreatDoor

/- What the walks of laws with marks share: facts behind a marking call; how many marks a thing takes, against its size. Plain: no program. -/
namespace Go.Proofs.YtjddmboaaebbiaaGreatDoor
set_option linter.unusedSimpArgs false
set_option linter.unusedVariables false
set_option maxRecDepth 100000
open Go.RowKit Go.WideShapes
set_option linter.unusedVariables false

/-- A cell of a box behind a call that wrote elsewhere. -/
theorem cell_apart {G : List Nat} {W W' : World} (ha : Apart G W W') {b i : Nat} {v : Value} (hc : W.cell? ⟨b, i, none⟩ = some v) (hb : b ∈ G → False) : ∀ X : World, Below W'.heap.size W' X → X.cell? ⟨b, i, none⟩ = some v := fun X hX => by
  have hlt : b < W.heap.size := cell_lt hc
  rw [cell_same (hX.block b (Nat.lt_of_lt_of_le hlt ha.size)) i, cell_same (ha.block b hlt hb) i]
  exact hc
theorem sumBy_le {α : Type} {f g : α → Int} (h : ∀ x, f x ≤ g x) : ∀ l : List α, sumBy f l ≤ sumBy g l
  | [] => Int.le_refl _
  | x :: r => by have := h x; have := sumBy_le h r; simp only [sumBy]; omega
theorem ctL_sum {α : Type} (ct : α → Nat) : ∀ l : List α, (ctL ct l : Int) = sumBy (fun x => (ct x : Int)) l
  | [] => rfl
  | x :: r => by have := ctL_sum ct r; simp only [ctL, sumBy]; omega
theorem sumBy_const_add {α : Type} (f : α → Int) (c : Int) : ∀ l : List α, sumBy (fun x => c + f x) l = c * l.length + sumBy f l
  | [] => by simp [sumBy]
  | x :: r => by have := sumBy_const_add f c r; simp only [sumBy, List.length_cons, this, Int.natCast_add, Int.mul_add]; omega
theorem sumBy_mul {α : Type} (f : α → Int) (c : Int) : ∀ l : List α, sumBy (fun x => c * f x) l = c * sumBy f l
  | [] => by simp [sumBy]
  | x :: r => by have := sumBy_mul f c r; simp only [sumBy, this, Int.mul_add]
theorem ctE0_le : ∀ (d : Nat) (e : Ex), (ctE0 d e : Int) ≤ 6 + 6 * bulkE d e
  | 0, e => by simp only [ctE0]; have := bulkE_nonneg 0 e; omega
  | d + 1, e => by
    have h1 := ctL_sum (ctE0 d) e.args
    have h2 := sumBy_le (fun x => ctE0_le d x) e.args
    rw [sumBy_const_add, sumBy_mul] at h2
    have h3 := sumBy_nonneg (bulkE_nonneg d) e.args
    simp only [ctE0, bulkE]
    omega
theorem ctE_args {d : Nat} (l : List Ex) : (ctL (ctE0 d) l : Int) ≤ 6 * l.length + 6 * sumBy (bulkE d) l := by
  have h1 := ctL_sum (ctE0 d) l
  have h2 := sumBy_le (fun x => ctE0_le d x) l
  rw [sumBy_const_add, sumBy_mul] at h2
  omega
theorem ctEqn_le (D : Nat) (x : Eqn) : (ct_Eqn D x : Int) ≤ 8 + 6 * bulkEqn D x := by
  have := ctE0_le D x.expr
  have := bulkOcc_nonneg D x.at_
  simp only [ct_Eqn, ct_Occ, bulkEqn]
  omega
theorem ctCon_le (D : Nat) (x : Con) : (ct_Con D x : Int) ≤ 14 + 6 * bulkCon D x := by
  have := ctE0_le D x.target
  have := ctE0_le D x.value
  simp only [ct_Con, bulkCon]
  omega
theorem ctAtr_le (D : Nat) : ∀ l : List Atr, (ctL (ct_Atr D) l : Int) = 4 * l.length
  | [] => rfl
  | x :: r => by
    have := ctAtr_le D r
    simp only [ctL, ct_Atr, List.length_cons]
    omega
theorem ctEqns_le (D : Nat) (l : List Eqn) : (ctL (ct_Eqn D) l : Int) ≤ 8 * l.length + 6 * sumBy (bulkEqn D) l := by
  have h1 := ctL_sum (ct_Eqn D) l
  have h2 := sumBy_le (fun x => ctEqn_le D x) l
  rw [sumBy_const_add, sumBy_mul] at h2
  omega
theorem ctCons_le (D : Nat) (l : List Con) : (ctL (ct_Con D) l : Int) ≤ 14 * l.length + 6 * sumBy (bulkCon D) l := by
  have h1 := ctL_sum (ct_Con D) l
  have h2 := sumBy_le (fun x => ctCon_le D x) l
  rw [sumBy_const_add, sumBy_mul] at h2
  omega
theorem scRul_le (D : Nat) (x : Rul) : (sc_Rul D x : Int) ≤ 14 * bulkRul D x := by
  have h1 := ctEqns_le D x.eqs
  have h2 := ctCons_le D x.cons
  have := bulkS_nonneg x.right
  have := sumBy_nonneg (bulkEqn_nonneg D) x.eqs
  have := sumBy_nonneg (bulkCon_nonneg D) x.cons
  simp only [sc_Rul, bulkRul]
  omega
theorem scSym_le (D : Nat) (x : Sym) : (sc_Sym D x : Int) ≤ 4 * bulkSym D x := by
  have h1 := ctAtr_le D x.attrs
  have := sumBy_nonneg (bulkAtr_nonneg D) x.attrs
  simp only [sc_Sym, bulkSym]
  omega
theorem scEx_le : ∀ (D : Nat) (x : Ex), (sc_Ex D x : Int) ≤ 6 * bulkE D x
  | 0, x => by simp only [sc_Ex]; have := bulkE_nonneg 0 x; omega
  | d + 1, x => by
    have := ctE_args (d := d) x.args
    simp only [sc_Ex, bulkE]
    omega
theorem Rul_cnt {D : Nat} {x : Rul} (h : bulkRul D x ≤ 1048576) : sc_Rul D x ≤ 100000000 := by have := scRul_le D x; omega
theorem Sym_cnt {D : Nat} {x : Sym} (h : bulkSym D x ≤ 1048576) : sc_Sym D x ≤ 100000000 := by have := scSym_le D x; omega
theorem Ex_cnt {D : Nat} {x : Ex} (h : bulkE D x ≤ 1048576) : sc_Ex D x ≤ 100000000 := by have := scEx_le D x; omega
theorem ctSym_le (D : Nat) (x : Sym) : (ct_Sym D x : Int) ≤ 1 + 4 * bulkSym D x := by
  have h1 := ctAtr_le D x.attrs
  have := sumBy_nonneg (bulkAtr_nonneg D) x.attrs
  simp only [ct_Sym, bulkSym]
  omega
theorem ctRul_le (D : Nat) (x : Rul) : (ct_Rul D x : Int) ≤ 3 + 14 * bulkRul D x := by
  have h1 := ctEqns_le D x.eqs
  have h2 := ctCons_le D x.cons
  have := bulkS_nonneg x.right
  have := sumBy_nonneg (bulkEqn_nonneg D) x.eqs
  have := sumBy_nonneg (bulkCon_nonneg D) x.cons
  simp only [ct_Rul, bulkRul]
  omega
theorem scGrm_le (D : Nat) (x : Grm) : (sc_Grm D x : Int) ≤ 14 * bulkGrm D x := by
  have a1 := ctL_sum (ct_Sym D) x.symbols
  have a2 := sumBy_le (fun x => ctSym_le D x) x.symbols
  rw [sumBy_const_add, sumBy_mul] at a2
  have b1 := ctL_sum (ct_Rul D) x.rules
  have b2 := sumBy_le (fun x => ctRul_le D x) x.rules
  rw [sumBy_const_add, sumBy_mul] at b2
  have := sumBy_nonneg (bulkSym_nonneg D) x.symbols
  have := sumBy_nonneg (bulkRul_nonneg D) x.rules
  simp only [sc_Grm, bulkGrm]
  omega
theorem Grm_cnt {D : Nat} {x : Grm} (h : bulkGrm D x ≤ 1048576) : sc_Grm D x ≤ 100000000 := by have := scGrm_le D x; omega
end Go.Proofs.YtjddmboaaebbiaaGreatDoor

/- The last step of a row that lists variables of the program: they stay as they were. Conditions: the variables' types are readable. -/
namespace Go.Proofs.YtjddmboaaebbiaaGreatDoor
set_option linter.unusedSimpArgs false
set_option linter.unusedVariables false
set_option maxRecDepth 100000
open Go.ChangeShapes Go.WideShapes Go.ChangeAt Go.RowKit
section
variable {H : Type} {enc : TypeId × Value → H} {P : Program}
theorem vars_len {w : World} {sp : Nat → Bool} : ∀ {ns : List String} {gs : List (DataW H)} {ps : List MemPlace}, DataW.TrodVars enc P w sp ns gs ps → gs.length = ns.length
  | [], [], _, _ => rfl
  | n :: ns, d :: ds, ps, h => by
    obtain ⟨g, t, cs, fuel, p, q, h1, h2, h3, h4, hs, e⟩ := h
    simp [vars_len hs]
theorem vars_below (hl : laidOutB P = true) {W W' : World} (hb : Below W.heap.size W W') {sp : Nat → Bool} : ∀ {ns : List String} {gs : List (DataW H)} {ps : List MemPlace},
    (ns.all fun n => ((P.globalNamed n).bind fun g => (P.globals[g]?).map (·.type)).elim false fun t => P.readableRec t && decide (t < P.types.size)) = true →
    DataW.TrodVars enc P W (fun _ => true) ns gs ps → (∀ p ∈ ps, p.block < W.heap.size) → (∀ p ∈ ps, sp p.block = true) → DataW.TrodVars enc P W' sp ns gs ps
  | [], [], _, _, h, _, _ => h
  | n :: ns, d :: ds, ps, ht, h, hlt, hsp => by
    obtain ⟨g, t, cs, fuel, p, q, h1, h2, h3, h4, hs, rfl⟩ := h
    rw [List.all_cons, Bool.and_eq_true, h1, Option.bind_some, h2] at ht
    obtain ⟨ht1, ht2⟩ := ht
    simp only [Option.elim, Bool.and_eq_true, decide_eq_true_eq] at ht1
    have hg : g < W.heap.size := by
      by_cases hg : g < W.heap.size
      · exact hg
      · simp [World.var?, h1, Array.getElem?_eq_none (Nat.le_of_not_lt hg)] at h3
    have h3' : W'.var? P n = some cs := by
      simp only [World.var?, h1, Option.bind_some] at h3 ⊢
      rw [hb.block g hg]
      exact h3
    have h4' : DataW.trod enc P W' 0 sp true fuel t cs.toList = some (d, p) :=
      DataW.trod_stays (Go.kids_book hl ht1.1) (Go.book_sized ht1.1) (fun h => by cases h) ⟨ht1.2, Go.book_self t⟩ h4 (fun x hx => hb.same (hlt x (by simp [hx]))) (fun x hx => hsp x (by simp [hx]))
    exact ⟨g, t, cs, fuel, p, q, h1, h2, h3', h4', vars_below hl hb ht2 hs (fun x hx => hlt x (by simp [hx])) (fun x hx => hsp x (by simp [hx])), rfl⟩
/-- THE ROW's LAST STEP: true was returned, old memory is as it was, the listed variables too. -/
theorem law_postV {f : Func} {s : ChangeSpec} {apart fresh handsOn again : Bool} {W W' : World} {args : Array Value} {ds gs : List (DataW H)} {before : List MemPlace} {tb : TypeId}
    (hW : DataW.Whole enc P f.params.toList s.vars apart W args.toList ds gs before) (hb : Below W.heap.size W W') (hl : laidOutB P = true)
    (hts : f.params.toList.all (fun t => P.readableRec t && decide (t < P.types.size)) = true) (hr : f.resultTypes = #[tb]) (ht : P.underlying tb = some .bool)
    (hvs : (s.vars.all fun n => ((P.globalNamed n).bind fun g => (P.globals[g]?).map (·.type)).elim false fun t => P.readableRec t && decide (t < P.types.size)) = true)
    (hfn : s.fn H (ds ++ gs) = { results := [.lit (.bool true)], args := ds, vars := gs }) : s.post enc P f apart fresh handsOn again W args (.bool true) W' := by
  have hlt : ∀ p ∈ before, p.block < W.heap.size := fun p hp => hW.lt p hp
  have hW0 := hW
  obtain ⟨p, q, hA, hV, rfl, hz, hn⟩ := hW
  have hltp : ∀ x ∈ p, x.block < W.heap.size := fun x hx => hlt x (by simp [hx])
  have hltq : ∀ x ∈ q, x.block < W.heap.size := fun x hx => hlt x (by simp [hx])
  have hargs : ∀ sp : Nat → Bool, (∀ x ∈ p, sp x.block = true) → DataW.TrodAll enc P W' 0 sp true f.params.toList args.toList ds p := fun sp hsp => trodAll_below hl hb hts hA hltp hsp
  have hres : ∀ (b : Nat) (sp : Nat → Bool) (hd : Bool), DataW.TrodAll enc P W' b sp hd f.resultTypes.toList ((Value.bool true).resultList f.resultTypes.size) [.lit (.bool true)] [] := by
    intro b sp hd
    rw [hr]
    exact trodAll_cons_mk (shut_bool ht true) trodAll_mk0
  have hvars : ∀ sp : Nat → Bool, (∀ x ∈ q, sp x.block = true) → DataW.TrodVars enc P W' sp s.vars gs q := fun sp hsp => vars_below hl hb hvs hV hltq hsp
  have e1 : (s.fn H (ds ++ gs)).results = [.lit (.bool true)] := by rw [hfn]
  have e2 : (s.fn H (ds ++ gs)).args = ds := by rw [hfn]
  have e3 : (s.fn H (ds ++ gs)).vars = gs := by rw [hfn]
  have rA : ∀ sp : Nat → Bool, (∀ x ∈ p, sp x.block = true) → DataW.TrodAll enc P W' 0 sp true f.params.toList args.toList (s.fn H (ds ++ gs)).args p := fun sp hsp => by rw [e2]; exact hargs sp hsp
  have rR : ∀ (b : Nat) (sp : Nat → Bool) (hd : Bool), DataW.TrodAll enc P W' b sp hd f.resultTypes.toList ((Value.bool true).resultList f.resultTypes.size) (s.fn H (ds ++ gs)).results [] := fun b sp hd => by rw [e1]; exact hres b sp hd
  have rV : ∀ sp : Nat → Bool, (∀ x ∈ q, sp x.block = true) → DataW.TrodVars enc P W' sp s.vars (s.fn H (ds ++ gs)).vars q := fun sp hsp => by rw [e3]; exact hvars sp hsp
  refine ⟨ds, gs, p ++ q, [], p, q, hW0, rR _ _ _, rA _ (fun x hx => by simpa using hltp x hx), rV _ (fun x hx => by simpa using hltq x hx), World.keptBut_mono (fun x hx => ⟨hx, Or.inr (List.mem_append.1 hx)⟩) (hb.frame (· ∈ p ++ q)), fun _ => ?_⟩
  · refine ⟨ok_one hr rfl (okWide_bool_mk ht true), _, _, ([] ++ p) ++ q, ⟨[] ++ p, q, trodAll_append (rA _ (fun _ _ => rfl)) (rR _ _ _), rV _ (fun _ _ => rfl), rfl, ?_, ?_⟩, ?_⟩
    · intro b off hp
      have hin : MemPlace.cell b off ∈ p ++ q := by simpa using hp
      rw [hb.frozen (hlt _ hin)]
      exact hz b off hin
    · intro ha
      simpa using hn ha
    · intro x hx _
      simpa using hx
end
end Go.Proofs.YtjddmboaaebbiaaGreatDoor

/- Grammars as text: what the text is; a join of all lines is the lines with their ends. Plain: no program. -/
namespace Go.Proofs.YtjddmboaaebbiaaGreatDoor
set_option linter.unusedSimpArgs false
set_option linter.unusedVariables false
set_option maxRecDepth 100000
open Go.RowKit Go.Lib
set_option linter.unusedVariables false

def nlB : ByteArray := ⟨#[10]⟩
def nlT (l : List ByteArray) : ByteArray := l.foldl (fun o x => o ++ x ++ nlB) ⟨#[]⟩
theorem bcat_assoc (a b c : ByteArray) : a ++ b ++ c = a ++ (b ++ c) := by apply ByteArray.ext; simp [Array.append_assoc]
theorem bcat_none (a : ByteArray) : a ++ ⟨#[]⟩ = a := by apply ByteArray.ext; simp
theorem none_bcat (a : ByteArray) : ⟨#[]⟩ ++ a = a := by apply ByteArray.ext; simp
theorem nl_fold : ∀ (l : List ByteArray) (o : ByteArray), l.foldl (fun o x => o ++ x ++ nlB) o = o ++ nlT l
  | [], o => (bcat_none o).symm
  | x :: r, o => by
    have h : nlT (x :: r) = x ++ nlB ++ nlT r := by
      show List.foldl (fun o x => o ++ x ++ nlB) (⟨#[]⟩ ++ x ++ nlB) r = _
      rw [nl_fold r, none_bcat]
    rw [List.foldl_cons, nl_fold r, h]
    simp only [bcat_assoc]
theorem nlT_append (a b : List ByteArray) : nlT (a ++ b) = nlT a ++ nlT b := by
  unfold nlT
  rw [List.foldl_append, nl_fold]
  rfl
theorem nlT_snoc (a : List ByteArray) (x : ByteArray) : nlT (a ++ [x]) = nlT a ++ x ++ nlB := by
  unfold nlT
  rw [List.foldl_append]
  rfl
theorem mk_cat (a b : List UInt8) : (⟨(a ++ b).toArray⟩ : ByteArray) = ⟨a.toArray⟩ ++ ⟨b.toArray⟩ := by apply ByteArray.ext; simp
theorem mk_self (x : ByteArray) : (⟨x.data.toList.toArray⟩ : ByteArray) = x := by apply ByteArray.ext; simp
theorem join_take (l : List ByteArray) : ∀ j, 0 < j → j ≤ l.length → (⟨(joinL (l.take j) nlB).toArray⟩ : ByteArray) ++ nlB = nlT (l.take j)
  | 0, h, _ => absurd h (by omega)
  | 1, _, hl => by
    have hx : l[0]? = some l[0] := List.getElem?_eq_getElem hl
    rw [joinL_first hx, take_snoc hx, nlT_snoc, List.take_zero, joinL_nil, List.nil_append, mk_self]
    show _ = ⟨#[]⟩ ++ _ ++ nlB
    rw [none_bcat]
  | j + 2, _, hl => by
    have hx : l[j + 1]? = some l[j + 1] := List.getElem?_eq_getElem (by omega)
    have ih := join_take l (j + 1) (by omega) (by omega)
    rw [joinL_next (by omega) hx, take_snoc hx, nlT_snoc, ← ih, mk_cat, mk_cat, mk_self, mk_self]
theorem join_nl {l : List ByteArray} (h : l ≠ []) : (⟨(joinL l nlB).toArray⟩ : ByteArray) ++ nlB = nlT l := by
  have hl : 0 < l.length := List.length_pos_iff.2 h
  have := join_take l l.length hl (Nat.le_refl _)
  rwa [List.take_length] at this
def okG (D : Nat) (g : Grm) : Bool := g.symbols.all validY && g.rules.all (validRul D)
def linesG (D : Nat) (g : Grm) (j k : Nat) : List ByteArray := (g.symbols.take j).map fmtSym ++ ((g.rules.take k).map (fmtR D)).flatten
def fmtGrm (D : Nat) (g : Grm) : ByteArray := if okG D g then nlT (linesG D g g.symbols.length g.rules.length) else ⟨#[]⟩
theorem linesG_sym {D : Nat} {g : Grm} {j : Nat} {x : Sym} (hx : g.symbols[j]? = some x) : linesG D g (j + 1) 0 = linesG D g j 0 ++ [fmtSym x] := by
  unfold linesG
  rw [take_snoc hx]
  simp
theorem linesG_rul {D : Nat} {g : Grm} {j k : Nat} {x : Rul} (hx : g.rules[k]? = some x) : linesG D g j (k + 1) = linesG D g j k ++ fmtR D x := by
  unfold linesG
  rw [take_snoc hx]
  simp
end Go.Proofs.YtjddmboaaebbiaaGreatDoor
