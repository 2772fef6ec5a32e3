/- Slices of things of several cells, read as lists, with the blocks that they own. Plain: no program. -/
import Derived.Test.YtaihdnlpdibkoaaKit
import Derived.Laws.MakeOwn
namespace Go.Proofs.Ytaihdnlpdibkoaa
set_option maxRecDepth 100000
open Go.RowKit

/-- How a thing lies: the world, the thing, its own cells, the blocks that it owns beyond them. -/
abbrev CR (α : Type) := World → α → List Value → List Nat → Prop
structure Good {α : Type} (n : Nat) (R : CR α) : Prop where
  len : ∀ {w x cs F}, R w x cs F → cs.length = n
  frame : ∀ {w w' x cs F}, R w x cs F → (∀ b ∈ F, w'.heap[b]? = w.heap[b]?) → w.heap.size ≤ w'.heap.size → R w' x cs F
  lt : ∀ {w x cs F}, R w x cs F → ∀ b ∈ F, b < w.heap.size

/-- The elements of a row, from an offset on. -/
def ElR {α : Type} (n : Nat) (R : CR α) (w : World) (b : Nat) : Nat → List α → List Nat → Prop
  | _, [], F => F = []
  | off, x :: r, F => ∃ cs F1 F2, F = F1 ++ F2 ∧ CellsAt w b off cs ∧ R w x cs F1 ∧ ElR n R w b (off + n) r F2

/-- A slice value that holds the list xs; F: the blocks that it owns. -/
def SlR {α : Type} (n : Nat) (R : CR α) (w : World) (xs : List α) (v : Value) (F : List Nat) : Prop :=
  ∃ A cap, v = .slice A xs.length cap ∧ xs.length ≤ cap ∧ cap ≤ maxLen ∧
    ((xs = [] ∧ F = []) ∨ ∃ b off F', A = some ⟨b, off, none⟩ ∧ b < w.heap.size ∧ F = b :: F' ∧ ElR n R w b off xs F')

section
variable {α : Type} {n : Nat} {R : CR α}
theorem ElR.frame (hR : Good n R) {w w' : World} {b : Nat} (hb : w'.heap[b]? = w.heap[b]?) (hz : w.heap.size ≤ w'.heap.size) : ∀ {xs : List α} {off : Nat} {F : List Nat}, ElR n R w b off xs F → (∀ k ∈ F, w'.heap[k]? = w.heap[k]?) → ElR n R w' b off xs F
  | [], _, _, h, _ => h
  | x :: r, off, F, h, hk => by
    obtain ⟨cs, F1, F2, rfl, h1, h2, h3⟩ := h
    exact ⟨cs, F1, F2, rfl, h1.frame hb, hR.frame h2 (fun k hk' => hk k (by simp [hk'])) hz, ElR.frame hR hb hz h3 (fun k hk' => hk k (by simp [hk']))⟩
theorem ElR.lt (hR : Good n R) {w : World} {b : Nat} : ∀ {xs : List α} {off : Nat} {F : List Nat}, ElR n R w b off xs F → ∀ k ∈ F, k < w.heap.size
  | [], _, _, h, k, hk => by
    rw [show (_ : List Nat) = [] from h] at hk
    cases hk
  | x :: r, off, F, h, k, hk => by
    obtain ⟨cs, F1, F2, rfl, h1, h2, h3⟩ := h
    rcases List.mem_append.1 hk with hk | hk
    · exact hR.lt h2 k hk
    · exact ElR.lt hR h3 k hk
theorem ElR.get (hR : Good n R) {w : World} {b : Nat} : ∀ {xs : List α} {off : Nat} {F : List Nat} {k : Nat} {x : α}, ElR n R w b off xs F → xs[k]? = some x →
    ∃ cs F1 Fk F2, F = F1 ++ (Fk ++ F2) ∧ CellsAt w b (off + k * n) cs ∧ R w x cs Fk ∧ ElR n R w b off (xs.take k) F1 ∧ ElR n R w b (off + (k + 1) * n) (xs.drop (k + 1)) F2
  | [], _, _, _, _, _, hk => by cases hk
  | y :: r, off, F, 0, x, h, hk => by
    obtain ⟨cs, F1, F2, rfl, h1, h2, h3⟩ := h
    simp at hk
    subst hk
    exact ⟨cs, [], F1, F2, rfl, by simpa using h1, h2, rfl, by simpa using h3⟩
  | y :: r, off, F, k + 1, x, h, hk => by
    obtain ⟨cs, F1, F2, rfl, h1, h2, h3⟩ := h
    obtain ⟨cs', G1, Gk, G2, rfl, g1, g2, g3, g4⟩ := ElR.get hR h3 (by simpa using hk)
    refine ⟨cs', F1 ++ G1, Gk, G2, by simp, ?_, g2, ⟨cs, F1, G1, rfl, h1, h2, g3⟩, ?_⟩
    · rw [show off + (k + 1) * n = off + n + k * n by rw [Nat.add_mul]; omega]; exact g1
    · rw [show off + (k + 1 + 1) * n = off + n + (k + 1) * n by rw [Nat.add_mul (k + 1)]; omega]; simpa using g4
theorem ElR.append {w : World} {b : Nat} : ∀ {xs : List α} {off : Nat} {F : List Nat} {ys : List α} {G : List Nat}, ElR n R w b off xs F → ElR n R w b (off + xs.length * n) ys G → ElR n R w b off (xs ++ ys) (F ++ G)
  | [], off, F, ys, G, h, g => by
    rw [show F = [] from h]
    simpa using g
  | x :: r, off, F, ys, G, h, g => by
    obtain ⟨cs, F1, F2, rfl, h1, h2, h3⟩ := h
    refine ⟨cs, F1, F2 ++ G, by simp, h1, h2, ElR.append h3 ?_⟩
    rw [List.length_cons, Nat.add_mul] at g
    rw [show off + n + r.length * n = off + (r.length * n + 1 * n) by omega]
    exact g
theorem ElR.one {w : World} {b off : Nat} {x : α} {cs : List Value} {F : List Nat} (h1 : CellsAt w b off cs) (h2 : R w x cs F) : ElR n R w b off [x] F := ⟨cs, F, [], by simp, h1, h2, rfl⟩
theorem ElR.snoc {w : World} {b off : Nat} {xs : List α} {x : α} {cs : List Value} {F G : List Nat} (h : ElR n R w b off xs F) (h1 : CellsAt w b (off + xs.length * n) cs) (h2 : R w x cs G) : ElR n R w b off (xs ++ [x]) (F ++ G) :=
  h.append (ElR.one h1 h2)

theorem SlR.frame (hR : Good n R) {w w' : World} {xs : List α} {v : Value} {F : List Nat} (h : SlR n R w xs v F) (hk : ∀ k ∈ F, w'.heap[k]? = w.heap[k]?) (hz : w.heap.size ≤ w'.heap.size) : SlR n R w' xs v F := by
  obtain ⟨A, cap, hv, hl, hm, h⟩ := h
  refine ⟨A, cap, hv, hl, hm, ?_⟩
  rcases h with h | ⟨b, off, F', hA, hb, rfl, he⟩
  · exact .inl h
  · exact .inr ⟨b, off, F', hA, by omega, rfl, ElR.frame hR (hk b (by simp)) hz he (fun k hk' => hk k (by simp [hk']))⟩
theorem SlR.lt (hR : Good n R) {w : World} {xs : List α} {v : Value} {F : List Nat} (h : SlR n R w xs v F) : ∀ k ∈ F, k < w.heap.size := by
  obtain ⟨A, cap, hv, hl, hm, h⟩ := h
  rcases h with ⟨_, rfl⟩ | ⟨b, off, F', hA, hb, rfl, he⟩
  · intro k hk; cases hk
  · intro k hk
    rcases List.mem_cons.1 hk with rfl | hk
    · exact hb
    · exact ElR.lt hR he k hk
/-- The value's form. -/
theorem SlR.form {w : World} {xs : List α} {v : Value} {F : List Nat} (h : SlR n R w xs v F) : ∃ A cap, v = .slice A xs.length cap ∧ xs.length ≤ cap ∧ cap ≤ maxLen := by
  obtain ⟨A, cap, hv, hl, hm, _⟩ := h
  exact ⟨A, cap, hv, hl, hm⟩
theorem SlR.bnd {w : World} {xs : List α} {A : Option Addr} {len cap : Nat} {F : List Nat} (h : SlR n R w xs (.slice A len cap) F) : len = xs.length ∧ xs.length ≤ cap ∧ cap ≤ maxLen := by
  obtain ⟨A', cap', hv, hl, hm⟩ := h.form
  injection hv with _ h2 h3
  subst h2 h3
  exact ⟨rfl, hl, hm⟩
/-- Element k, by its cells. -/
theorem SlR.get (hR : Good n R) {w : World} {xs : List α} {A : Option Addr} {l cap : Nat} {F : List Nat} {k : Nat} {x : α} (h : SlR n R w xs (.slice A l cap) F) (hk : xs[k]? = some x) :
    ∃ b off cs Fk, A = some ⟨b, off, none⟩ ∧ b < w.heap.size ∧ b ∈ F ∧ (∀ j ∈ Fk, j ∈ F) ∧ cs.length = n ∧ CellsAt w b (off + k * n) cs ∧ R w x cs Fk := by
  obtain ⟨A', cap', hv, hl, hm, h⟩ := h
  injection hv with hA _ _
  subst hA
  rcases h with ⟨rfl, _⟩ | ⟨b, off, F', hA, hb, rfl, he⟩
  · cases hk
  · obtain ⟨cs, F1, Fk, F2, rfl, h1, h2, _, _⟩ := ElR.get hR he hk
    exact ⟨b, off, cs, Fk, hA, hb, by simp, fun j hj => by simp [hj], hR.len h2, h1, h2⟩
end

theorem ElR.build {α : Type} {n : Nat} {R : CR α} {w : World} {b off : Nat} : ∀ len : Nat, (∀ i, i < len → ∃ x cs F, CellsAt w b (off + i * n) cs ∧ R w x cs F) → ∃ xs F, xs.length = len ∧ ElR n R w b off xs F
  | 0, _ => ⟨[], [], rfl, rfl⟩
  | len + 1, h => by
    obtain ⟨xs, F, hl, he⟩ := ElR.build len (fun i hi => h i (by omega))
    obtain ⟨x, cs, G, h1, h2⟩ := h len (by omega)
    exact ⟨xs ++ [x], F ++ G, by simp [hl], he.snoc (by rw [hl]; exact h1) h2⟩
theorem ElR.mono {α : Type} {n : Nat} {R R' : CR α} {w : World} {b : Nat} (hR : ∀ x cs F, R w x cs F → R' w x cs F) : ∀ {xs : List α} {off : Nat} {F : List Nat}, ElR n R w b off xs F → ElR n R' w b off xs F
  | [], _, _, h => h
  | x :: r, off, F, h => by
    obtain ⟨cs, F1, F2, rfl, h1, h2, h3⟩ := h
    exact ⟨cs, F1, F2, rfl, h1, hR _ _ _ h2, ElR.mono hR h3⟩
theorem SlR.mono {α : Type} {n : Nat} {R R' : CR α} {w : World} {xs : List α} {v : Value} {F : List Nat} (hR : ∀ x cs F, R w x cs F → R' w x cs F) (h : SlR n R w xs v F) : SlR n R' w xs v F := by
  obtain ⟨A, cap, hv, hl, hm, h⟩ := h
  refine ⟨A, cap, hv, hl, hm, ?_⟩
  rcases h with h | ⟨b, off, F', hA, hb, rfl, he⟩
  · exact .inl h
  · exact .inr ⟨b, off, F', hA, hb, rfl, he.mono hR⟩

section
variable {H : Type} {enc : TypeId × Value → H} {P : Program} {w : World} {base fuel : Nat} {sp : Nat → Bool} {held : Bool}
/-- A slice that came in, if each of its elements can be read. -/
theorem open_SlR {α : Type} {t e n : Nat} {cs : List Value} {x : DataW H × List MemPlace} (ht : P.underlying t = some (.slice e)) (hC : P.cellsOf e = n) (hn : 0 < n) (R : CR α) (h : DataW.trod enc P w base sp held fuel t cs = some x)
    (hel : ∀ m cs y, m < fuel → DataW.trod enc P w base sp held m e cs = some y → ∃ z F, R w z cs F) : ∃ xs v F, cs = [v] ∧ SlR n R w xs v F := by
  rcases DataW.trod_slice ht h with ⟨hcs, _⟩ | ⟨a, len, cap, elems, rest, m, hfu, hcs, _, hb, hl, hm, hlen, hi, _, _⟩
  · exact ⟨[], _, [], hcs, none, 0, rfl, Nat.le_refl _, by simp [maxLen], .inl ⟨rfl, rfl⟩⟩
  · rcases Nat.eq_zero_or_pos len with h0 | hpos
    · subst h0
      exact ⟨[], _, [], hcs, some a, cap, rfl, by simp, hm, .inl ⟨rfl, rfl⟩⟩
    · have hget : ∀ i, i < len → ∃ cs' z F, w.cells? base (a.add (i * n)) n = some cs' ∧ R w z cs' F := by
        intro i hil
        have h1 := hi i hil
        rw [List.getElem?_eq_getElem (by omega), hC] at h1
        obtain ⟨cs', hc, ht'⟩ := Option.bind_eq_some_iff.1 h1
        obtain ⟨z, F, hz⟩ := hel m cs' _ (by omega) ht'
        exact ⟨cs', z, F, hc, hz⟩
      obtain ⟨c0, _, _, hc0, _⟩ := hget 0 hpos
      obtain ⟨_, hl0, hat0⟩ := World.cells?_some hc0
      have hcell0 := hat0 0 hn
      rw [List.getElem?_eq_getElem (by omega)] at hcell0
      have hspot := cell_spot hcell0
      have hblt := cell_lt hcell0
      obtain ⟨b, off, spot⟩ := a
      simp [Addr.add] at hspot hblt
      subst hspot
      obtain ⟨xs, F, hxl, he⟩ := ElR.build (n := n) (R := R) (w := w) (b := b) (off := off) len (fun i hil => by
        obtain ⟨cs', z, F, hc, hz⟩ := hget i hil
        obtain ⟨_, hl', hat⟩ := World.cells?_some hc
        refine ⟨z, cs', F, fun j u hu => ?_, hz⟩
        have hj : j < n := by have := (List.getElem?_eq_some_iff.1 hu).1; omega
        have h2 := hat j hj
        rw [hu] at h2
        have e : ((⟨b, off, none⟩ : Addr).add (i * n)).add j = ⟨b, off + i * n + j, none⟩ := by
          unfold Addr.add
          by_cases h1 : i * n = 0 <;> by_cases h3 : j = 0 <;> simp [h1, h3]
        rw [e] at h2
        exact h2)
      refine ⟨xs, _, b :: F, hcs, some ⟨b, off, none⟩, cap, by rw [hxl], by omega, hm, .inr ⟨b, off, F, rfl, hblt, rfl, he⟩⟩
end

/-! ### Sums over lists -/
def sumBy {α : Type} (f : α → Int) : List α → Int
  | [] => 0
  | x :: r => f x + sumBy f r
theorem sumBy_append {α : Type} (f : α → Int) (xs ys : List α) : sumBy f (xs ++ ys) = sumBy f xs + sumBy f ys := by
  induction xs with
  | nil => simp [sumBy]
  | cons x r ih => simp only [List.cons_append, sumBy, ih]; omega
theorem sumBy_snoc {α : Type} (f : α → Int) (xs : List α) (x : α) : sumBy f (xs ++ [x]) = sumBy f xs + f x := by rw [sumBy_append]; simp [sumBy]
theorem sumBy_nonneg {α : Type} {f : α → Int} (hf : ∀ x, 0 ≤ f x) : ∀ xs : List α, 0 ≤ sumBy f xs
  | [] => Int.le_refl _
  | x :: r => by have := sumBy_nonneg hf r; have := hf x; simp only [sumBy]; omega
theorem sumBy_take_succ {α : Type} {f : α → Int} {xs : List α} {k : Nat} {x : α} (hx : xs[k]? = some x) : sumBy f (xs.take (k + 1)) = sumBy f (xs.take k) + f x := by rw [take_snoc hx, sumBy_snoc]
theorem sumBy_take_le {α : Type} {f : α → Int} (hf : ∀ x, 0 ≤ f x) (xs : List α) (k : Nat) : sumBy f (xs.take k) ≤ sumBy f xs := by
  have h := sumBy_append f (xs.take k) (xs.drop k)
  rw [List.take_append_drop] at h
  have := sumBy_nonneg hf (xs.drop k)
  omega
theorem sumBy_mem {α : Type} {f : α → Int} (hf : ∀ x, 0 ≤ f x) {xs : List α} {x : α} (h : x ∈ xs) : f x ≤ sumBy f xs := by
  induction xs with
  | nil => cases h
  | cons y r ih =>
    simp only [sumBy]
    rcases List.mem_cons.1 h with rfl | h
    · have := sumBy_nonneg hf r; omega
    · have := ih h; have := hf y; omega

theorem Good.heap {α : Type} {n : Nat} {R : CR α} (hR : Good n R) {w w' : World} {x : α} {cs : List Value} {F : List Nat} (h : R w x cs F) (he : w'.heap = w.heap) : R w' x cs F :=
  hR.frame h (fun k _ => by rw [he]) (by rw [he]; exact Nat.le_refl _)
theorem SlR.heap {α : Type} {n : Nat} {R : CR α} (hR : Good n R) {w w' : World} {xs : List α} {v : Value} {F : List Nat} (h : SlR n R w xs v F) (he : w'.heap = w.heap) : SlR n R w' xs v F :=
  h.frame hR (fun k _ => by rw [he]) (by rw [he]; exact Nat.le_refl _)
/-- A thing below a block number stands where it stood. -/
theorem Good.below {α : Type} {n : Nat} {R : CR α} (hR : Good n R) {w w' : World} {x : α} {cs : List Value} {F : List Nat} {B : Nat} (h : R w x cs F) (hb : Below B w w') (hF : ∀ k ∈ F, k < B) : R w' x cs F :=
  hR.frame h (fun k hk => hb.block k (hF k hk)) hb.size
theorem SlR.below {α : Type} {n : Nat} {R : CR α} (hR : Good n R) {w w' : World} {xs : List α} {v : Value} {F : List Nat} {B : Nat} (h : SlR n R w xs v F) (hb : Below B w w') (hF : ∀ k ∈ F, k < B) : SlR n R w' xs v F :=
  h.frame hR (fun k hk => hb.block k (hF k hk)) hb.size

/-- 'make([]T, n)', T of several cells. -/
theorem run_make_rowN' {P : Program} (t e : TypeId) (z : Value) (size bytes : Nat) (ht : P.underlying t = some (.slice e)) (hinfo : (P.info? e).map (fun i => (i.zero, i.size, i.bytes)) = some (some z, size, bytes))
    (kl kc : IntKind) (n : Nat) (hbytes : bytes * n ≤ 281474976710656) (h63 : n ≤ 9223372036854775807) (w : World) :
    (Instr.makeSlice t (.int kl (n : Int)) (.int kc (n : Int))).run P w = .ok (.slice (some ⟨w.heap.size, 0, none⟩) n n) (w.alloc (.cells (madeCells z.cells (n * size)) e)) := by
  obtain ⟨i, hi, hzz⟩ := Option.map_eq_some_iff.1 hinfo
  simp only [Prod.mk.injEq] at hzz
  obtain ⟨hz, hs, hb⟩ := hzz
  have hb' : (i.bytes : Int) * (n : Int) ≤ 281474976710656 := by
    have h : ((i.bytes * n : Nat) : Int) ≤ 281474976710656 := by rw [hb]; omega
    rwa [Int.natCast_mul] at h
  have hr := run_make (P := P) w t e i z ht hi hz kl kc n n (by omega) (Int.le_refl _) hb' (by omega)
  simp only [Int.toNat_natCast, hs] at hr
  exact hr

/-- Seven cells of a block of the call's own: there, and not frozen. -/
theorem cells7_of {w : World} {b o : Nat} {cs : Array Value} {t : TypeId} (h : w.heap[b]? = some (.cells cs t (0, 0))) (ho : o + 7 ≤ cs.size) :
    ∃ v0 v1 v2 v3 v4 v5 v6, (w.cell? ⟨b, o, none⟩ = some v0 ∧ w.cell? ⟨b, o + 1, none⟩ = some v1 ∧ w.cell? ⟨b, o + 2, none⟩ = some v2 ∧ w.cell? ⟨b, o + 3, none⟩ = some v3 ∧ w.cell? ⟨b, o + 4, none⟩ = some v4 ∧
      w.cell? ⟨b, o + 5, none⟩ = some v5 ∧ w.cell? ⟨b, o + 6, none⟩ = some v6) ∧
      (w.frozen? ⟨b, o, none⟩ = false ∧ w.frozen? ⟨b, o + 1, none⟩ = false ∧ w.frozen? ⟨b, o + 2, none⟩ = false ∧ w.frozen? ⟨b, o + 3, none⟩ = false ∧ w.frozen? ⟨b, o + 4, none⟩ = false ∧ w.frozen? ⟨b, o + 5, none⟩ = false ∧ w.frozen? ⟨b, o + 6, none⟩ = false) := by
  have hc : ∀ i, i < 7 → w.cell? ⟨b, o + i, none⟩ = some (cs.getD (o + i) undef) := fun i hi => by
    rw [cell_of_row _ _ _ _ _ _ h]
    have : o + i < cs.size := by omega
    simp [Array.getD, this]
  exact ⟨_, _, _, _, _, _, _, ⟨hc 0 (by omega), hc 1 (by omega), hc 2 (by omega), hc 3 (by omega), hc 4 (by omega), hc 5 (by omega), hc 6 (by omega)⟩,
    frozen_of_row _ _ _ _ _ h, frozen_of_row _ _ _ _ _ h, frozen_of_row _ _ _ _ _ h, frozen_of_row _ _ _ _ _ h, frozen_of_row _ _ _ _ _ h, frozen_of_row _ _ _ _ _ h, frozen_of_row _ _ _ _ _ h⟩

/-! ### A struct stored into a row -/
def putCells (w : World) (b : Nat) : Nat → List Value → World
  | _, [] => w
  | o, v :: r => putCells (w.setCell ⟨b, o, none⟩ v) b (o + 1) r
structure Put (w : World) (b o : Nat) (vs : List Value) (cs : Array Value) (t : TypeId) (w' : World) : Prop where
  blk : ∃ cs', w'.heap[b]? = some (.cells cs' t (0, 0)) ∧ cs'.size = cs.size ∧ (∀ i, i < o ∨ o + vs.length ≤ i → cs'[i]? = cs[i]?) ∧ (∀ j u, vs[j]? = some u → cs'[o + j]? = some u)
  far : ∀ k, k ≠ b → w'.heap[k]? = w.heap[k]?
  size : w'.heap.size = w.heap.size
  os : w'.os = w.os
  tape : w'.tape = w.tape
  output : w'.output = w.output
theorem put_spec {b : Nat} {t : TypeId} : ∀ (vs : List Value) (o : Nat) (w : World) (cs : Array Value), w.heap[b]? = some (.cells cs t (0, 0)) → o + vs.length ≤ cs.size → Put w b o vs cs t (putCells w b o vs)
  | [], o, w, cs, h, _ => ⟨⟨cs, h, rfl, fun _ _ => rfl, fun j u hu => by cases hu⟩, fun _ _ => rfl, rfl, rfl, rfl, rfl⟩
  | v :: r, o, w, cs, h, hz => by
    have h1 : (w.setCell ⟨b, o, none⟩ v).heap[b]? = some (.cells (cs.setIfInBounds o v) t (0, 0)) := heap_setCell_same w b o cs t v h
    rw [List.length_cons] at hz
    obtain ⟨⟨cs', hb, hs, hout, hin⟩, hf, hsz, h2, h3, h4⟩ := put_spec r (o + 1) (w.setCell ⟨b, o, none⟩ v) _ h1 (by simp; omega)
    refine ⟨⟨cs', hb, by simpa using hs, fun i hi => ?_, fun j u hu => ?_⟩, fun k hk => (hf k hk).trans (heap_setCell_other w _ k v (by simpa using hk)), hsz.trans (by simp [World.setCell]), h2, h3, h4⟩
    · rw [List.length_cons] at hi
      rw [hout i (by omega), Array.getElem?_setIfInBounds]
      rw [if_neg (by omega)]
    · cases j with
      | zero =>
        simp at hu
        subst hu
        rw [hout (o + 0) (by omega), Array.getElem?_setIfInBounds]
        simp
        omega
      | succ j =>
        have := hin j u (by simpa using hu)
        rw [show o + (j + 1) = o + 1 + j by omega]
        exact this
theorem Put.cellsAt {w w' : World} {b o : Nat} {vs : List Value} {cs : Array Value} {t : TypeId} (h : Put w b o vs cs t w') : CellsAt w' b o vs := fun j u hu => by
  obtain ⟨cs', hb, _, _, hin⟩ := h.blk
  rw [cell_of_row _ _ _ _ _ _ hb]
  exact hin j u hu
theorem Put.keeps {w w' : World} {b o : Nat} {vs : List Value} {cs : Array Value} {t : TypeId} (h : Put w b o vs cs t w') (hb0 : w.heap[b]? = some (.cells cs t (0, 0))) {o' : Nat} {us : List Value} (hu : CellsAt w b o' us) (hd : o' + us.length ≤ o ∨ o + vs.length ≤ o') : CellsAt w' b o' us := fun j u hj => by
  obtain ⟨cs', hb, _, hout, _⟩ := h.blk
  have h1 := hu j u hj
  rw [cell_of_row _ _ _ _ _ _ hb0] at h1
  rw [cell_of_row _ _ _ _ _ _ hb, hout (o' + j) (by have := (List.getElem?_eq_some_iff.1 hj).1; omega)]
  exact h1
theorem Put.below {w w' : World} {b o : Nat} {vs : List Value} {cs : Array Value} {t : TypeId} (h : Put w b o vs cs t w') {B : Nat} (hB : B ≤ b) : Below B w w' :=
  ⟨h.os, h.tape, h.output, by rw [h.size]; exact Nat.le_refl _, fun k hk => h.far k (by omega)⟩
/-- Elements that lie ahead of a stored one. -/
theorem ElR.put {α : Type} {n : Nat} {R : CR α} (hR : Good n R) {w w' : World} {b o : Nat} {vs : List Value} {cs : Array Value} {t : TypeId} (h : Put w b o vs cs t w') (hb0 : w.heap[b]? = some (.cells cs t (0, 0))) :
    ∀ {xs : List α} {off : Nat} {F : List Nat}, ElR n R w b off xs F → off + xs.length * n ≤ o ∨ o + vs.length ≤ off → b ∉ F → ElR n R w' b off xs F
  | [], _, _, hE, _, _ => hE
  | x :: r, off, F, hE, hd, hF => by
    obtain ⟨cs1, F1, F2, rfl, h1, h2, h3⟩ := hE
    simp only [List.mem_append, not_or] at hF
    rw [List.length_cons, Nat.add_mul] at hd
    have hl := hR.len h2
    exact ⟨cs1, F1, F2, rfl, h.keeps hb0 h1 (by omega), hR.frame h2 (fun k hk => h.far k (fun e => hF.1 (e ▸ hk))) (by rw [h.size]; exact Nat.le_refl _), ElR.put hR h hb0 h3 (by omega) hF.2⟩
end Go.Proofs.Ytaihdnlpdibkoaa
