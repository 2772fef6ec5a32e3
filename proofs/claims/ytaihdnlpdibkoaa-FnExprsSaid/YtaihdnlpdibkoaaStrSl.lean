/- Slices of texts, told as slices of things: sizes, copies, comparisons. Conditions: a size is asked with at most 2^20; a copy is asked of at most 2^20 texts. -/
import Derived.Test.YtaihdnlpdibkoaaStrs
import Derived.Test.YtaihdnlpdibkoaaFrame
namespace Go.Proofs.Ytaihdnlpdibkoaa
set_option maxRecDepth 100000
open Go.RowKit Go.WideShapes
set_option linter.unusedVariables false

def StrR (_D : Nat) : CR ByteArray := fun _ x cs F => cs = [.string x] ∧ x.size ≤ maxLen ∧ F = []
theorem StrR.good (D : Nat) : Good 1 (StrR D) where
  len := fun {w x cs F} h => by
    obtain ⟨rfl, _, _⟩ := h
    rfl
  frame := fun {w w' x cs F} h he hz => h
  lt := fun {w x cs F} h b hb => by
    obtain ⟨_, _, rfl⟩ := h
    cases hb
theorem StrR.up {D : Nat} {w : World} {x : ByteArray} {cs : List Value} {F : List Nat} (h : StrR D w x cs F) (D' : Nat) (hd : D ≤ D') : StrR D' w x cs F := h
theorem StrR.one {D : Nat} {w : World} {x : ByteArray} {cs : List Value} {F : List Nat} (h : StrR D w x cs F) : ∀ v ∈ cs, v.oneCell' = true := by
  obtain ⟨rfl, _, _⟩ := h
  intro v hv
  obtain rfl := List.mem_singleton.1 hv
  rfl
theorem cells_Str {H : Type} {enc : TypeId × Value → H} {w : World} {base : Nat} {sp : Nat → Bool} {held : Bool} (fuel : Nat) {cs : List Value} {x : DataW H × List MemPlace}
    (h : DataW.trod enc Try.prog w base sp held fuel 9 cs = some x) : ∃ y F, StrR fuel w y cs F := by
  obtain ⟨z, hz, _, hw⟩ := DataW.trod_string Try.underlying9 h
  exact ⟨z, [], hz, hw, rfl⟩
theorem open_StrL {H : Type} {enc : TypeId × Value → H} {w : World} {C base : Nat} {sp : Nat → Bool} {held : Bool} {v : Value} {d : DataW H} {p : List MemPlace} (hv : Value.okWide Try.prog w .any C 27 v)
    (h : DataW.Trod enc Try.prog w base sp held 27 v d p) : ∃ (D : Nat) (xs : List ByteArray) (F : List Nat), SlR 1 (StrR D) w xs v F := by
  obtain ⟨a0, len, cap, rfl⟩ := okWide_slice Try.underlying27 hv
  obtain ⟨fuel, hf⟩ := h
  obtain ⟨xs, v, F, hcs, hs⟩ := open_SlR (n := 1) Try.underlying27 (by kernel_rfl) (by omega) (StrR fuel) hf (fun m cs y hm hy => cells_Str m hy)
  simp [Value.cells] at hcs
  subst hcs
  exact ⟨fuel, xs, F, hs⟩
theorem ElR.strs {D : Nat} {w : World} {b : Nat} : ∀ {xs : List ByteArray} {off : Nat} {F : List Nat}, ElR 1 (StrR D) w b off xs F → F = [] ∧ (∀ x ∈ xs, x.size ≤ maxLen) ∧ ∀ j u, (xs.map Value.string)[j]? = some u → w.cell? ⟨b, off + j, none⟩ = some u
  | [], _, _, h => ⟨h, by simp, fun j u hu => by simp at hu⟩
  | x :: r, off, F, h => by
    obtain ⟨cs, F1, F2, rfl, h1, ⟨rfl, hx, rfl⟩, h3⟩ := h
    obtain ⟨rfl, g1, g2⟩ := ElR.strs h3
    refine ⟨rfl, fun y hy => ?_, fun j u hu => ?_⟩
    · rcases List.mem_cons.1 hy with rfl | hy
      · exact hx
      · exact g1 y hy
    · cases j with
      | zero => simp at hu; subst hu; exact h1 0 _ rfl
      | succ j => rw [show off + (j + 1) = off + 1 + j by omega]; exact g2 j u (by simpa using hu)
theorem ElR.of_strs {D : Nat} {w : World} {b : Nat} : ∀ {xs : List ByteArray} {off : Nat}, (∀ x ∈ xs, x.size ≤ maxLen) → (∀ j u, (xs.map Value.string)[j]? = some u → w.cell? ⟨b, off + j, none⟩ = some u) → ElR 1 (StrR D) w b off xs []
  | [], _, _, _ => rfl
  | x :: r, off, hs, hc => ⟨[.string x], [], [], rfl, fun j u hu => by
      cases j with
      | zero => simp at hu; subst hu; exact hc 0 _ rfl
      | succ j => simp at hu, ⟨rfl, hs x (by simp), rfl⟩, ElR.of_strs (fun y hy => hs y (by simp [hy])) fun j u hu => by
      rw [show off + 1 + j = off + (j + 1) by omega]; exact hc (j + 1) u (by simpa using hu)⟩
theorem SlR.strs {D : Nat} {w : World} {xs : List ByteArray} {A : Option Addr} {len cap : Nat} {F : List Nat} (h : SlR 1 (StrR D) w xs (.slice A len cap) F) : Rd w w.heap.size A len (xs.map Value.string) ∧ (∀ x ∈ xs, x.size ≤ maxLen) := by
  obtain ⟨A', cap', hv, hl, hm, h⟩ := h
  injection hv with hA hlen hc
  subst hA hlen hc
  rcases h with ⟨rfl, _⟩ | ⟨b, off, F', hA, hb, _, he⟩
  · exact ⟨⟨rfl, fun h => by simp at h⟩, by simp⟩
  · obtain ⟨_, g1, g2⟩ := he.strs
    exact ⟨⟨by simp, fun _ => ⟨b, off, hA, hb, g2⟩⟩, g1⟩
theorem bulkS_sum (xs : List ByteArray) : bulkS xs = sumBy (fun x => (x.size : Int)) xs := by
  induction xs with
  | nil => rfl
  | cons x r ih => simp only [bulkS, sumBy, ih]
theorem zs_Str (D : Nat) (l : List ByteArray) (v : Value) (F : List Nat) (w : World) (L : Int) (hs : SlR 1 (StrR D) w l v F) (h0 : 0 ≤ L) (h1 : L ≤ 1048576) :
    Calls Try.prog 107 #[v, .int .i64 L] w fun en w' => Sized (l.length + bulkS l) L en ∧ Below w.heap.size w w' := by
  obtain ⟨A, cap, rfl, hlc, hm⟩ := hs.form
  unfold maxLen at hm
  obtain ⟨hr, hx⟩ := hs.strs
  exact (l_szStringS A l.length cap L l _ w hr (by omega) hx h0 h1).mono fun e w' ⟨h, hw⟩ => ⟨h, by subst hw; exact Below.refl _ _⟩
theorem es_Str (D : Nat) (l : List ByteArray) (v v' : Value) (F F' : List Nat) (w : World) (hs : SlR 1 (StrR D) w l v F) (hs' : SlR 1 (StrR D) w l v' F') :
    Calls Try.prog 42 #[v, v'] w fun en w' => en = .returned (.bool true) ∧ Below w.heap.size w w' := by
  obtain ⟨A, cap, rfl, hlc, hm⟩ := hs.form
  obtain ⟨A', cap', rfl, hlc', hm'⟩ := hs'.form
  unfold maxLen at hm hm'
  refine (l_eqStringS A A' l.length l.length cap cap' l l _ _ w hs.strs.1 hs'.strs.1 (by omega) (by omega)).mono ?_
  rintro e w' ⟨rfl, hb⟩
  exact ⟨by simp, hb⟩
theorem cs_Str (D : Nat) (l : List ByteArray) (v : Value) (F : List Nat) (w : World) (hs : SlR 1 (StrR D) w l v F) (hl : l.length ≤ 1048576) (hbl : bulkS l ≤ 1048576) :
    Calls Try.prog 111 #[v] w fun en w' => ∃ v' F', en = .returned v' ∧ SlR 1 (StrR D) w' l v' F' ∧ Fresh w.heap.size w' F' ∧ Below w.heap.size w w' := by
  obtain ⟨A, cap, rfl, hlc, hm⟩ := hs.form
  obtain ⟨hr, hx⟩ := hs.strs
  refine (l_toStringS A l.length cap l _ w hr hl (Nat.le_refl _)).mono ?_
  rintro e w' ⟨rfl, hblk, hb⟩
  have hel : ElR 1 (StrR D) w' w.heap.size 0 l [] := ElR.of_strs hx fun j u hu => by
    rw [cell_of_row _ _ _ _ _ _ hblk]
    simpa using hu
  obtain ⟨G, hG, hGf⟩ := copy_done (w := w) (by unfold maxLen; omega) hel (Fresh.nil _ _) hblk
  exact ⟨_, G, rfl, hG, hGf, hb⟩
end Go.Proofs.Ytaihdnlpdibkoaa
