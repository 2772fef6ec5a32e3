/- The gathered uses sorted and taken once each: the library's sort and Compact at occurrences; AttributeUses, the program's side. Conditions: at most 2^21 uses. -/
import Derived.Test.YtaihdnlpdibkoaaUseC
import Derived.Test.YtaihdnlpdibkoaaUseD
import Derived.Test.YtaihdnlpdibkoaaUseF
import Derived.Test.YtaihdnlpdibkoaaShelfQ
namespace Go.Proofs.Ytaihdnlpdibkoaa
set_option maxRecDepth 100000
open Go.RowKit Go.WideShapes Go.Sort
set_option linter.unusedVariables false

def encO (x : Occ) : List Value := [.int .i64 x.pos, .string x.name]
def srt (xs : List Occ) : List Occ := xs.mergeSort fun x y => !(ltOf cmpO) y x
theorem ltO (x y : Occ) : ltOf cmpO x y = decide (occLt x y) := by
  unfold ltOf
  by_cases h : occLt x y
  · rw [decide_eq_true h, decide_eq_true ((cmpO_lt x y).2 h)]
  · rw [decide_eq_false h, decide_eq_false (fun q => h ((cmpO_lt x y).1 q))]
theorem swoO : SWO (ltOf cmpO) where
  irrefl x := by rw [ltO]; simpa using occ_irrefl x
  trans x y z h1 h2 := by
    rw [ltO] at *
    simp only [decide_eq_true_eq] at *
    exact occ_trans h1 h2
  ntrans x y z h1 h2 := by
    rw [ltO] at *
    simp only [decide_eq_false_iff_not] at *
    exact occ_le_trans h2 h1
theorem totO (x y : Occ) (h1 : ltOf cmpO x y = false) (h2 : ltOf cmpO y x = false) : x = y := by
  rw [ltO] at *
  simp only [decide_eq_false_iff_not] at *
  by_cases e : x = y
  · exact e
  · exact absurd (occ_tri x y h1 e) h2
theorem srt_once (xs : List Occ) : Lib.compact (srt xs) = sortO xs := sorted_onceO xs _ fun a b => by rw [ltO]
theorem srt_len (xs : List Occ) : (srt xs).length = xs.length := List.length_mergeSort xs
theorem rowO_sorted {w : World} {g n : Nat} {os : Array Obj} {d d' : Array Occ} (h : RowO w g d) (hs : d'.size = d.size) : RowO (sortWorldK encO 2 w g 0 n d' os) g d' := by
  obtain ⟨cur, hb, hz, _⟩ := h
  have hg : g < w.heap.size := blk_lt hb
  refine ⟨Go.Sort.putCells id 0 (flatK encO 2 d') cur, ?_, by simp [Go.Sort.putCells]; omega, fun j hj => ?_⟩
  · unfold sortWorldK putRowK
    rw [heap_grow_old _ _ (by simpa using hg)]
    simp [putRow, mapBlock, Sort.ahead, Array.getElem?_modify, hb, onCells]
  · have hget : ∀ t, t < d'.size * 2 → (Go.Sort.putCells id 0 (flatK encO 2 d') cur)[t]? = some ((encO d'[t / 2]!)[t % 2]!) := fun t ht => by
      have h1 : t < cur.size := by omega
      have h2 : t < (flatK encO 2 d').size := by rw [size_flatK]; exact ht
      unfold Go.Sort.putCells
      rw [Array.getElem?_mapIdx, Array.getElem?_eq_getElem h1]
      simp only [Option.map_some, Nat.zero_le, Nat.zero_add, true_and, Nat.sub_zero, id]
      rw [if_pos h2, get_flatK _ _ _ _ ht]
    have e1 := hget (j * 2) (by omega)
    have e2 := hget (j * 2 + 1) (by omega)
    rw [show j * 2 / 2 = j by omega, show j * 2 % 2 = 0 by omega] at e1
    rw [show (j * 2 + 1) / 2 = j by omega, show (j * 2 + 1) % 2 = 1 by omega] at e2
    exact ⟨e1, e2⟩
theorem grown_sorted {w : World} {g n : Nat} {os : Array Obj} (d : Array Occ) : w.grownBy (sortWorldK encO 2 w g 0 n d os) (some g) := by
  unfold sortWorldK putRowK
  refine ⟨rfl, rfl, rfl, by simp, fun k hk hne => ?_⟩
  rw [heap_grow_old _ _ (by simpa using hk)]
  have : g ≠ k := fun e => hne (by rw [e])
  simp [putRow, mapBlock, Sort.ahead, Array.getElem?_modify, this]
theorem holdsO {w : World} {g : Nat} {d : Array Occ} (h : RowO w g d) : HoldsK encO 2 w g 0 d := by
  intro t ht
  rw [size_flatK] at ht
  rw [get_flatK _ _ _ _ ht, Nat.zero_add]
  obtain ⟨cur, hb, hz, h3⟩ := h
  refine ⟨?_, frozen_of_row _ _ _ _ _ hb⟩
  obtain ⟨e1, e2⟩ := h3 (t / 2) (by omega)
  rw [cell_of_row _ _ _ _ _ _ hb]
  rcases Nat.mod_two_eq_zero_or_one t with e | e
  · rw [e]
    rw [show t / 2 * 2 = t by omega] at e1
    exact e1
  · rw [e]
    rw [show t / 2 * 2 + 1 = t by omega] at e2
    exact e2
theorem t_SortO (g cap : Nat) (xs : List Occ) (w : World) (h : RowO w g xs.toArray) (hn : xs.length ≤ 2097152) :
    Calls Try.prog 60 #[.slice (some ⟨g, 0, none⟩) xs.length cap, .func (.func 61) #[] #[]] w fun e w' => e = .returned (.tuple #[]) ∧ w.grownBy w' (some g) ∧ RowO w' g (srt xs).toArray := by
  have hblk : g < w.heap.size := by
    obtain ⟨cur, hb, _⟩ := h
    exact blk_lt hb
  have eg : ∀ args w, (callFunc 61 args).run Try.prog w = .ok (.enter 61 args) w := enters_of Try.func61 (by kernel_rfl) rfl
  have hcmp : CmpLays Try.prog 61 #[] encO 2 cmpO g 0 xs.toArray.size w := fun m os dk _ x y => t_cmpO x y _
  have hcon := AnyQ.slices_SortFunc_total Try.sortOcc 2 Try.isAgg65 Try.sizeOf65 encO (fun _ => rfl) (fun x v hv => by simp [encO] at hv; rcases hv with rfl | rfl <;> rfl) cmpO swoO 61 #[] g 0 cap xs.toArray w eg hcmp (holdsO h) hblk (by simp; omega) totO
  change Calls Try.prog 60 _ _ _ at hcon
  rw [show xs.toArray.size = xs.length by simp] at hcon
  refine hcon.mono ?_
  rintro e w' ⟨he, n, os, rfl⟩
  exact ⟨he, grown_sorted _, rowO_sorted h (by simp [List.length_mergeSort])⟩
theorem t_Sort0 (p : Option Addr) (cap : Nat) (w : World) :
    Calls Try.prog 60 #[.slice p 0 cap, .func (.func 61) #[] #[]] w fun e w' => e = .returned (.tuple #[]) ∧ w' = w :=
  AnyF.slices_SortFunc_none Try.sortOcc p cap _ w
theorem t_Compact0 (p : Option Addr) (cap : Nat) (w : World) :
    Calls Try.prog 62 #[.slice p 0 cap] w fun e w' => e = .returned (.slice p 0 cap) ∧ w' = w := by
  go_enter Try.func62, Try.ntmps62
  go_wp2_with fail
  go_ret
  exact ⟨rfl, rfl⟩
theorem ElL.occ {w : World} : ∀ {xs : List Occ} {cl : List Value} {F : List Nat}, ElL (OccR 0) w xs cl F → (∀ x ∈ xs, x.ok) ∧ ∀ j x, xs[j]? = some x → cl[j * 2]? = some (.int .i64 x.pos) ∧ cl[j * 2 + 1]? = some (.string x.name)
  | [], _, _, _ => ⟨fun x hx => (by cases hx), fun j x hx => (by simp at hx)⟩
  | y :: r, cl, F, h => by
    obtain ⟨cs, cr, F1, F2, rfl, rfl, h1, h2⟩ := h
    obtain ⟨i1, i2⟩ := ElL.occ h2
    obtain ⟨a, b, rfl⟩ := list2 h1.1
    refine ⟨fun x hx => ?_, fun j x hx => ?_⟩
    · rcases List.mem_cons.1 hx with rfl | hx
      · exact h1.2.1
      · exact i1 x hx
    · cases j with
      | zero =>
        obtain rfl := Option.some.inj hx
        exact ⟨h1.2.2.1, h1.2.2.2.1⟩
      | succ j =>
        have h3 := i2 j x (by simpa using hx)
        rw [show (j + 1) * 2 = j * 2 + 1 + 1 by omega, show j * 2 + 1 + 1 + 1 = (j * 2 + 1) + 1 + 1 by omega]
        exact h3
theorem ElR.of_occ {D : Nat} {w : World} {b : Nat} : ∀ {xs : List Occ} {off : Nat}, (∀ x ∈ xs, x.ok) → (∀ j x, xs[j]? = some x → w.cell? ⟨b, off + j * 2, none⟩ = some (.int .i64 x.pos) ∧ w.cell? ⟨b, off + j * 2 + 1, none⟩ = some (.string x.name)) → ElR 2 (OccR D) w b off xs []
  | [], _, _, _ => rfl
  | y :: r, off, hok, h => by
    obtain ⟨h1, h2⟩ := h 0 y rfl
    refine ⟨[.int .i64 y.pos, .string y.name], [], [], rfl, fun i u hu => ?_, ⟨rfl, hok y (by simp), rfl, rfl, rfl⟩, ElR.of_occ (fun x hx => hok x (by simp [hx])) fun j x hx => ?_⟩
    · rcases i with _ | _ | i
      · obtain rfl := Option.some.inj hu
        simpa using h1
      · obtain rfl := Option.some.inj hu
        simpa using h2
      · simp at hu
    · have h3 := h (j + 1) x (by simpa using hx)
      rwa [show off + (j + 1) * 2 = off + 2 + j * 2 by omega] at h3
/-- What is gathered, sorted, taken once. -/
theorem OwnS.rowO {B : Nat} {w : World} {xs : List Occ} {g off n cap : Nat} (h : OwnS 2 (OccR 0) B 65 w xs (.slice (some ⟨g, off, none⟩) n cap) []) : off = 0 ∧ RowO w g xs.toArray ∧ (∀ x ∈ xs, x.ok) ∧ B ≤ g := by
  obtain ⟨⟨cl, ⟨h1, h2⟩, hel⟩, _, _⟩ := h
  obtain ⟨i1, i2⟩ := hel.occ
  rcases h2 with ⟨h2, _⟩ | ⟨g', cap', cur, hv, hB, hb, hn, hm, hc, ht⟩
  · cases h2
  · injection hv with hv1 hv2 hv3
    injection hv1 with hv1
    injection hv1 with hv1 hv4
    subst hv1 hv4
    refine ⟨rfl, ⟨cur, hb, by rw [hc]; simp; omega, fun j hj => ?_⟩, i1, hB⟩
    have hj' : j < xs.length := by simpa using hj
    obtain ⟨e1, e2⟩ := i2 j xs[j] (List.getElem?_eq_getElem hj')
    have hx : (xs.toArray)[j]! = xs[j] := by rw [List.getElem!_toArray, getElem!_pos xs j hj']
    rw [hx]
    rw [← ht, List.getElem?_take_of_lt (by omega), Array.getElem?_toList] at e1 e2
    exact ⟨e1, e2⟩
end Go.Proofs.Ytaihdnlpdibkoaa
