/- Slices of occurrences are equal to themselves: the law's. -/
import Derived.Test.YtaihdnlpdibkoaaRul
namespace Go.Proofs.Ytaihdnlpdibkoaa
set_option maxRecDepth 100000
open Go.RowKit
set_option maxRecDepth 100000 in
theorem es_Occ (D : Nat) (l : List Occ) (v v' : Value) (F F' : List Nat) (w : World) (hs : SlR 2 (OccR D) w l v F) (hs' : SlR 2 (OccR D) w l v' F') :
    Calls Try.prog 19 #[v, v'] w fun en w' => en = .returned (.bool true) ∧ Below w.heap.size w w' := by
  obtain ⟨A, cap, rfl, hlc, hm⟩ := hs.form
  obtain ⟨A', cap', rfl, hlc', hm'⟩ := hs'.form
  have HF := hide (hs.lt (OccR.good D))
  have HF' := hide (hs'.lt (OccR.good D))
  unfold maxLen at hm hm'
  have Hs := hide hs
  have Hs' := hide hs'
  clear hs hs'
  go_enter Try.func19, Try.ntmps19
  go_wp2_with fail
  go_loopw [5] (fun i wr => ∃ j : Nat, j ≤ l.length ∧ i = .int .i64 j ∧ Hid (Below w.heap.size w wr)) (fun i _ => l.length - (intOf i).toNat)
  case atStart => exact ⟨0, by omega, rfl, hide (Below.refl _ _)⟩
  case round =>
    obtain ⟨j, hj, rfl, Hb⟩ := hrel
    by_cases hlt : j < l.length
    · have hx : l[j]? = some l[j] := List.getElem?_eq_getElem hlt
      generalize l[j] = x at hx
      obtain ⟨b, off, cs, Fk, hA, _, hbF, hFk, hcl, hcat, hR⟩ := SlR.get (OccR.good D) (Hs.out.below (OccR.good D) Hb.out HF.out) hx
      subst hA
      obtain ⟨a0, a1, rfl⟩ := list2 hcl
      obtain ⟨b', off', cs', Fk', hA, _, hbF', hFk', hcl', hcat', hR'⟩ := SlR.get (OccR.good D) (Hs'.out.below (OccR.good D) Hb.out HF'.out) hx
      subst hA
      obtain ⟨b0, b1, rfl⟩ := list2 hcl'
      have hblt := Nat.lt_of_lt_of_le (HF.out b hbF) Hb.out.size
      have hblt' := Nat.lt_of_lt_of_le (HF'.out b' hbF') Hb.out.size
      have e0 : ∀ W : World, Below wr.heap.size wr W → W.cell? ⟨b, off + j * 2, none⟩ = some a0 := fun W h => (hcat.below h hblt) 0 _ rfl
      have e1 : ∀ W : World, Below wr.heap.size wr W → W.cell? ⟨b, off + j * 2 + 1, none⟩ = some a1 := fun W h => (hcat.below h hblt) 1 _ rfl
      have g0 : ∀ W : World, Below wr.heap.size wr W → W.cell? ⟨b', off' + j * 2, none⟩ = some b0 := fun W h => (hcat'.below h hblt') 0 _ rfl
      have g1 : ∀ W : World, Below wr.heap.size wr W → W.cell? ⟨b', off' + j * 2 + 1, none⟩ = some b1 := fun W h => (hcat'.below h hblt') 1 _ rfl
      have HR := hide hR
      have HR' := hide hR'
      have hj0 : (0 : Int) ≤ (j : Int) := by omega
      have hj1 : (j : Int) < (l.length : Int) := by omega
      have hBr : Below wr.heap.size wr wr := Below.refl _ _
      clear hx hR hR' hcat hcat' hFk hFk' hbF hbF' hcl hcl'
      go_wp2_with fail
      go_region_held3 (fun W => Below wr.heap.size wr W)
        (first | assumption | exact Below.drew (by assumption))
        ((go_at_call 63; refine Calls.mono (e_Occ D x _ _ Fk Fk' _ ((OccR.good D).heap HR.out rfl) ((OccR.good D).heap HR'.out rfl)) ?_; rintro en w2 ⟨rfl, hb2⟩; have hB2 : Below wr.heap.size wr w2 := below_step (by (repeat (first | assumption | apply Below.drew))) (Nat.le_refl _) hb2; clear hb2))
      have HB2 : Hid (Below w.heap.size w w2) := hide (Hb.out.trans (hB2.mono Hb.out.size))
      clear hB2
      go_wp2_with fail
      go_roundw
      case rel => exact ⟨j + 1, by omega, by go_num, HB2⟩
      case measure => simp [intOf]; omega
    · go_wp2_with fail
      go_ret
      exact ⟨rfl, Hb.out⟩
end Go.Proofs.Ytaihdnlpdibkoaa
