/- Marks: the text that stands for a number; texts of a slice overwritten by marks, and held against them. Conditions: numbers from 1 to 2^40. -/
import Derived.Test.YtilndebjnibgjaaDoorStrSl
import Derived.Laws.IdiomStrings
namespace Go.Proofs.YtilndebjnibgjaaDoor
set_option maxRecDepth 100000
open Go.RowKit

/-- The decimal digits of k ahead of acc. -/
def dgsF : Nat → Nat → List UInt8 → List UInt8
  | 0, _, acc => acc
  | f + 1, k, acc => if k = 0 then acc else dgsF f (k / 10) ((48 + UInt8.ofNat (k % 10)) :: acc)
def mkT (k : Nat) : ByteArray := ⟨(109 :: dgsF k k []).toArray⟩

theorem dgs_step {f kk : Nat} {acc : List UInt8} (hk : 0 < kk) (hf : kk ≤ f) : dgsF f kk acc = dgsF (f - 1) (kk / 10) ((48 + UInt8.ofNat (kk % 10)) :: acc) := by
  match f, hf with
  | 0, hf => omega
  | f + 1, hf => simp only [dgsF]; rw [if_neg (by omega)]; rfl
theorem dgs_end {f : Nat} {acc : List UInt8} : dgsF f 0 acc = acc := by cases f <;> simp [dgsF]
theorem run_digit (kk : Nat) (W : World) : (convert 22 9 (.slice (some ⟨W.heap.size, 0, none⟩) 1 1)).run Tryd.prog (W.alloc (.cells #[.int .u8 (48 + (kk : Int) % 10)] 5)) =
    .ok (.string ⟨#[(48 + UInt8.ofNat (kk % 10))]⟩) (W.alloc (.cells #[.int .u8 (48 + (kk : Int) % 10)] 5)) := by
  have h := run_convert_bytes_back (P := Tryd.prog) (W.alloc (.cells #[.int .u8 (48 + (kk : Int) % 10)] 5)) 22 9 5 ⟨W.heap.size, 0, none⟩ 1 [(48 + UInt8.ofNat (kk % 10))] Tryd.underlying22 Tryd.underlying5 Tryd.underlying9 (fun j hj => by
    have hj0 : j = 0 := by simpa using hj
    subst hj0
    show World.cell? _ ⟨W.heap.size, 0, none⟩ = _
    rw [cell_of_row _ _ 0 _ _ _ (heap_alloc_new W _)]
    have hm : kk % 10 < 10 := Nat.mod_lt _ (by omega)
    have h8 : (48 + UInt8.ofNat (kk % 10)).toNat = 48 + kk % 10 := by simp [UInt8.toNat_add, UInt8.toNat_ofNat']; omega
    have e : ([(48 + UInt8.ofNat (kk % 10))] : List UInt8)[0].toNat = 48 + kk % 10 := h8
    rw [e]
    simp)
  exact h
/-! ### Slices of texts, marked -/
def marks (k n : Nat) : List ByteArray := (List.range n).map fun i => mkT (k + i)
theorem marks_len (k n : Nat) : (marks k n).length = n := by simp [marks]
theorem marks_succ (k n : Nat) : marks k (n + 1) = marks k n ++ [mkT (k + n)] := by simp [marks, List.range_succ]
theorem marks_at {k n j : Nat} (h : j < n) : (marks k n)[j]? = some (mkT (k + j)) := by simp [marks, h]
theorem marks_set {k j n : Nat} {xs : List ByteArray} (hl : xs.length = n) (hj : j < n) : ((marks k j ++ xs.drop j).map Value.string).set j (.string (mkT (k + j))) = (marks k (j + 1) ++ xs.drop (j + 1)).map Value.string := by
  have hd : xs.drop j = xs[j]'(by omega) :: xs.drop (j + 1) := List.drop_eq_getElem_cons (by omega)
  have hm : ((marks k j).map Value.string).length = j := by simp [marks_len]
  rw [hd, marks_succ]
  simp only [List.map_append, List.map_cons, List.map_nil]
  generalize (marks k j).map Value.string = m at hm
  clear hd
  subst hm
  simp
/-- All but the blocks F stands as it stood; new blocks may have come. -/
structure Apart (F : List Nat) (w w' : World) : Prop where
  os : w'.os = w.os
  tape : w'.tape = w.tape
  output : w'.output = w.output
  size : w.heap.size ≤ w'.heap.size
  block : ∀ b, b < w.heap.size → b ∉ F → w'.heap[b]? = w.heap[b]?
theorem Apart.refl (F : List Nat) (w : World) : Apart F w w := ⟨rfl, rfl, rfl, Nat.le_refl _, fun _ _ _ => rfl⟩
theorem Apart.trans {F : List Nat} {a b c : World} (h : Apart F a b) (g : Apart F b c) : Apart F a c :=
  ⟨g.os.trans h.os, g.tape.trans h.tape, g.output.trans h.output, Nat.le_trans h.size g.size, fun k hk hF => (g.block k (Nat.lt_of_lt_of_le hk h.size) hF).trans (h.block k hk hF)⟩
theorem Apart.of_below {F : List Nat} {w w' : World} (h : Below w.heap.size w w') : Apart F w w' := ⟨h.os, h.tape, h.output, h.size, fun k hk _ => h.block k hk⟩
theorem Apart.more {F G : List Nat} {w w' : World} (h : Apart F w w') (hFG : ∀ b ∈ F, b ∈ G) : Apart G w w' := ⟨h.os, h.tape, h.output, h.size, fun k hk hG => h.block k hk (fun hF => hG (hFG k hF))⟩
theorem Apart.below {F : List Nat} {w w' : World} {B : Nat} (h : Apart F w w') (hF : ∀ b ∈ F, B ≤ b) (hB : B ≤ w.heap.size) : Below B w w' :=
  ⟨h.os, h.tape, h.output, h.size, fun k hk => h.block k (by omega) (fun hm => by have := hF k hm; omega)⟩
theorem Apart.setCell {F : List Nat} {a w : World} (h : Apart F a w) {p : Addr} (hp : p.block ∈ F) (u : Value) : Apart F a (w.setCell p u) :=
  h.trans ⟨rfl, rfl, rfl, by simp [World.setCell], fun k _ hF => heap_setCell_other _ _ _ _ (fun e => hF (e ▸ hp))⟩
theorem SlR.apart {α : Type} {n : Nat} {R : CR α} (hR : Good n R) {w w' : World} {xs : List α} {v : Value} {F G : List Nat} (h : SlR n R w xs v G) (ha : Apart F w w') (hd : ∀ b ∈ G, b ∉ F) : SlR n R w' xs v G :=
  h.frame hR (fun k hk => ha.block k (h.lt hR k hk) (hd k hk)) ha.size
theorem Good.apart {α : Type} {n : Nat} {R : CR α} (hR : Good n R) {w w' : World} {x : α} {cs : List Value} {F G : List Nat} (h : R w x cs G) (ha : Apart F w w') (hd : ∀ b ∈ G, b ∉ F) : R w' x cs G :=
  hR.frame h (fun k hk => ha.block k (hR.lt h k hk) (hd k hk)) ha.size
theorem Fresh.apart {C : Nat} {w w' : World} {F G : List Nat} (h : Fresh C w G) (ha : Apart F w w') (hd : ∀ b ∈ G, b ∉ F) : Fresh C w' G := h.keep fun b hb => ha.block b (h.lt b hb) (hd b hb)
theorem setCell_far {w : World} {p : Addr} {u : Value} {k : Nat} (h : k ≠ p.block) : (w.setCell p u).heap[k]? = w.heap[k]? := heap_setCell_other _ _ _ _ h
theorem cellsAt_set {w : World} {b off j : Nat} {cs : Array Value} {t : TypeId} {us : List Value} {u : Value} (hb : w.heap[b]? = some (.cells cs t (0, 0))) (hj : off + j < cs.size) (h : CellsAt w b off us) :
    CellsAt (w.setCell ⟨b, off + j, none⟩ u) b off (us.set j u) := fun i v hv => by
  have h1 := heap_setCell_same w b (off + j) cs t u hb
  rw [cell_of_row _ _ _ _ _ _ h1, Array.getElem?_setIfInBounds]
  rw [List.getElem?_set] at hv
  by_cases hij : j = i
  · subst hij
    rw [if_pos rfl, if_pos hj]
    rw [if_pos rfl] at hv
    split at hv
    · exact hv
    · cases hv
  · rw [if_neg (by omega)]
    rw [if_neg hij] at hv
    have := h i v hv
    rwa [cell_of_row _ _ _ _ _ _ hb] at this
theorem mkT_small {k : Nat} (hk : k ≤ 1099511627776) : (mkT k).size ≤ maxLen := by
  have h : ∀ (f kk : Nat) (acc : List UInt8), (dgsF f kk acc).length ≤ acc.length + kk := by
    intro f
    induction f with
    | zero => intro kk acc; simp [dgsF]
    | succ f ih =>
      intro kk acc
      simp only [dgsF]
      split
      · omega
      · rename_i hne
        have := ih (kk / 10) ((48 + UInt8.ofNat (kk % 10)) :: acc)
        simp only [List.length_cons] at this
        omega
  have := h k k []
  unfold mkT maxLen
  simp only [ByteArray.size, List.size_toArray, List.length_cons]
  simp at this
  omega

end Go.Proofs.YtilndebjnibgjaaDoor
