/- Valid symbols: both sides. Conditions: a symbol has at most 2^20 attributes. -/
import Derived.Test.YtilndebjnibgjaaDoorSymFns
import Derived.Test.YtilndebjnibgjaaDoorToks
import Derived.Test.YtilndebjnibgjaaDoorWithout
namespace Go.Proofs.YtilndebjnibgjaaDoor
set_option maxRecDepth 100000
open Go.RowKit Go.WideShapes
set_option linter.unusedVariables false

theorem Rd.take {w : World} {B : Nat} {A : Option Addr} {n k : Nat} {xs : List ByteArray} (h : Rd w B A n (xs.map Value.string)) (hk : k ≤ n) : Rd w B A k ((xs.take k).map Value.string) := by
  refine ⟨by have := h.len; simp; omega, fun h0 => ?_⟩
  obtain ⟨b, off, hA, hb, hc⟩ := h.2 (by omega)
  refine ⟨b, off, hA, hb, fun j u hu => hc j u ?_⟩
  rw [List.map_take, List.getElem?_take] at hu
  split at hu
  · exact hu
  · cases hu
def disB (xs : List ByteArray) (j : Nat) : Bool := !hasS (xs.take j) (xs.getD j ⟨#[]⟩)
def distS (xs : List ByteArray) : Bool := (List.range xs.length).all (disB xs)
theorem dist_next {xs : List ByteArray} {j : Nat} (h : (List.range j).all (disB xs) = true) (hj : disB xs j = true) : (List.range (j + 1)).all (disB xs) = true := by
  rw [List.range_succ, List.all_append, h]
  simp [hj]
theorem dist_bad {xs : List ByteArray} {j : Nat} (hl : j < xs.length) (hj : disB xs j = false) : distS xs = false := by
  unfold distS
  rw [List.all_eq_false]
  exact ⟨j, by simp; exact hl, by simp [hj]⟩
theorem disB_at {xs : List ByteArray} {j : Nat} {x : ByteArray} (hx : xs[j]? = some x) : disB xs j = !hasS (xs.take j) x := by unfold disB; rw [List.getD, hx]; rfl
set_option maxRecDepth 100000 in
theorem s_AllDistinct (A : Option Addr) (n c : Nat) (xs : List ByteArray) (w : World) (hr : Rd w w.heap.size A n (xs.map Value.string)) (hn : n ≤ 1048576) (hc : n ≤ c) :
    Calls Tryd.prog 24 #[.slice A n c] w fun e w' => e = .returned (.bool (distS xs)) ∧ Below w.heap.size w w' := by
  have hl := hr.len
  have Hr := hide hr
  have hm : n ≤ 9223372036854775807 := by omega
  clear hr
  go_enter Tryd.func24, Tryd.ntmps24
  go_wp2_with fail
  go_loopw [3] (fun i wr => ∃ j : Nat, j ≤ n ∧ i = .int .i64 j ∧ Hid ((List.range j).all (disB xs) = true) ∧ Hid (Below w.heap.size w wr)) (fun i _ => n - (intOf i).toNat)
  case atStart => exact ⟨0, by omega, rfl, hide rfl, hide (Below.refl _ _)⟩
  case round =>
    obtain ⟨j, hj, rfl, Hall, Hb⟩ := hrel
    by_cases hlt : j < n
    · obtain ⟨b, off, x, hA, hb, hx, hcell⟩ := (Hr.out.below Hb.out).get hlt
      subst hA
      have hblt := Nat.lt_of_lt_of_le hb Hb.out.size
      have e0 : ∀ W : World, Below wr.heap.size wr W → W.cell? ⟨b, off + j, none⟩ = some (.string x) := fun W h => (h.cell (p := ⟨b, off + j, none⟩) hblt).trans hcell
      have HT : Hid (∀ W : World, Below wr.heap.size wr W → Rd W w.heap.size (some ⟨b, off, none⟩) j ((xs.take j).map Value.string)) := hide fun W h => ((Hr.out.below Hb.out).below (h.mono Hb.out.size)).take (by omega)
      have Hx := hide hx
      have hj0 : (0 : Int) ≤ (j : Int) := by omega
      have hj1 : (j : Int) < (n : Int) := by omega
      have hj2 : (j : Int) ≤ (c : Int) := by omega
      have hjm : j ≤ 9223372036854775807 := by omega
      clear hx hcell hb
      cases hq : hasS (xs.take j) x
      all_goals
        go_wp2_with fail
        go_region_held3 (fun W => Below wr.heap.size wr W)
          (first | assumption | exact Below.drew (by first | assumption | exact Below.refl _ _))
          ((go_at_call 41; refine Calls.mono (s_l1Has (some ⟨b, off, none⟩) j c x (xs.take j) w.heap.size _ (HT.out _ (by (repeat (first | assumption | apply Below.drew | exact Below.refl _ _)))) hjm) ?_; rintro en w2 ⟨rfl, rfl⟩; rw [hq]))
      · have Hj := hide (show disB xs j = true by rw [disB_at Hx.out, hq]; rfl)
        clear hq
        go_wp2_with fail
        go_roundw
        case rel => exact ⟨j + 1, by omega, by go_num, hide (dist_next Hall.out Hj.out), hide (by (repeat (first | exact Hb.out | apply Below.drew)))⟩
        case measure => simp [intOf]; omega
      · have Hj := hide (dist_bad (j := j) (by omega) (show disB xs j = false by rw [disB_at Hx.out, hq]; rfl))
        clear hq
        go_wp2_with fail
        go_ret
        exact ⟨ret_bool Hj.out.symm, by (repeat (first | exact Hb.out | apply Below.drew))⟩
    · have hjn : j = n := by omega
      have Hd : Hid (distS xs = true) := hide (by have := Hall.out; rw [hjn, ← hl] at this; exact this)
      go_wp2_with fail
      go_ret
      exact ⟨ret_bool Hd.out.symm, Hb.out⟩
def vA (a : Atr) : Bool := validA a.name a.type a.mode a.circ
def nms (x : Sym) : List ByteArray := x.attrs.map (·.name)
def validY (x : Sym) : Bool := x.attrs.all vA && (validN x.name && (decide (x.attrs.length ≤ 4) && distS (nms x)))
theorem nms_len (x : Sym) : (nms x).length = x.attrs.length := by simp [nms]
theorem nms_next {x : Sym} {j : Nat} {y : Atr} (h : x.attrs[j]? = some y) : (nms x).take (j + 1) = (nms x).take j ++ [y.name] := take_snoc (by simp [nms, h])
theorem all_take' {α : Type} {f : α → Bool} {xs : List α} {k : Nat} {x : α} (hx : xs[k]? = some x) (h : (xs.take k).all f = true) (hf : f x = true) : (xs.take (k + 1)).all f = true := by rw [take_snoc hx, List.all_append, h]; simp [hf]
theorem all_miss' {α : Type} {f : α → Bool} {xs : List α} {k : Nat} {x : α} (hx : xs[k]? = some x) (hf : f x = false) : xs.all f = false := by
  rw [List.all_eq_false]
  exact ⟨x, List.mem_of_getElem? hx, by simp [hf]⟩
end Go.Proofs.YtilndebjnibgjaaDoor
