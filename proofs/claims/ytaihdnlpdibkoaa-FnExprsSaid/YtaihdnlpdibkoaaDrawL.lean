/- Names drawn: one, any, a list of them. Conditions: the bytes drawn from can be read. -/
import Derived.Test.YtaihdnlpdibkoaaDraw
namespace Go.Proofs.Ytaihdnlpdibkoaa
set_option maxRecDepth 100000
open Go.RowKit
set_option linter.unusedVariables false

def DrawnS (b : Nat) (w : World) (e : Ending) (w' : World) : Prop := ∃ x : ByteArray, e = .returned (.string x) ∧ x.size ≤ 32 ∧ Cur w' b ∧ w.grownBy w' (some b)
theorem pick_cellS {b B bl off n : Nat} {zs : List ByteArray} {w w' : World} (hr : Rd w B (some ⟨bl, off, none⟩) n (zs.map Value.string)) (hlt : bl < w.heap.size) (hne : bl ≠ b) (hg : w.grownBy w' (some b)) (x : Int) (h0 : 0 ≤ x) (h1 : x ≤ n - 1) :
    ∃ z, z ∈ zs ∧ w'.cell? ⟨bl, off + x.toNat, none⟩ = some (.string z) := by
  obtain ⟨bl', off', z, hA, _, hxz, hc⟩ := hr.get (k := x.toNat) (by omega)
  injection hA with hA
  injection hA with e1 e2 _
  subst e1 e2
  exact ⟨z, List.mem_of_getElem? hxz, (World.cell?_of_block (hg.block bl hlt (fun e => hne (by injection e)))).trans hc⟩
theorem s_l1Pick {b : Nat} {w : World} (hc : Cur w b) (B : Nat) (A : Option Addr) (n c : Nat) (zs : List ByteArray) (hr : Rd w B A n (zs.map Value.string)) (h0 : 1 ≤ n) (h1 : n ≤ 256)
    (hne : ∀ bl off, A = some ⟨bl, off, none⟩ → bl ≠ b) (hz : ∀ z ∈ zs, z.size ≤ 32) :
    Calls Try.prog 99 #[.pointer (some ⟨b, 0, none⟩), .slice A n c] w (DrawnS b w) := by
  obtain ⟨bl, off, hA, hB, hcells⟩ := hr.2 (by omega)
  subst hA
  have hlt := cell_lt (hcells 0 _ (List.getElem?_eq_getElem (by have := hr.1; omega)))
  have hne' := hne bl off rfl
  go_enter Try.func99, Try.ntmps99
  go_wp2_with (go_at_call 97; refine (s_l1Below hc n (by omega) (by omega)).mono ?_; rintro e w' ⟨x, rfl, hx0, hx1, hc1, hg1⟩; obtain ⟨z, hzm, hcz⟩ := pick_cellS hr hlt hne' hg1 x hx0 hx1)
  go_ret
  exact ⟨_, rfl, hz z hzm, hc1, hg1⟩
/-- One of a list of texts that has just been laid. -/
theorem s_pickNewS {b : Nat} {w : World} (hc : Cur w b) (zs : List ByteArray) (h0 : 1 ≤ zs.length) (h1 : zs.length ≤ 256) (hz : zs.all (fun z => decide (z.size ≤ 32)) = true) :
    Calls Try.prog 99 #[.pointer (some ⟨b, 0, none⟩), .slice (some ⟨w.heap.size, 0, none⟩) zs.length zs.length] (w.alloc (.cells (zs.map Value.string).toArray 9)) (DrawnS b w) := by
  have hlt := hc.lt
  have hb : Below w.heap.size w (w.alloc (.cells (zs.map Value.string).toArray 9)) := (Below.refl _ _).alloc (Nat.le_refl _) _
  have hn := Rd.new w 9 (zs.map Value.string)
  rw [List.length_map] at hn
  refine (s_l1Pick (hc.below hb) _ _ _ _ zs hn h0 h1 (fun bl off e => by injection e with e; injection e with e1 _ _; omega) (fun z hzm => by simpa using List.all_eq_true.1 hz z hzm)).mono ?_
  rintro e w' ⟨x, rfl, hx, hc1, hg⟩
  exact ⟨x, rfl, hx, hc1, grown_below hb hg⟩
set_option maxRecDepth 100000 in
theorem s_l2Name {b : Nat} {w : World} (hc : Cur w b) : Calls Try.prog 154 #[.pointer (some ⟨b, 0, none⟩)] w (DrawnS b w) := by
  have hp := s_pickNewS hc [⟨#[97]⟩, ⟨#[98]⟩, ⟨#[99]⟩, ⟨#[100]⟩, ⟨#[120]⟩, ⟨#[121]⟩, ⟨#[116]⟩, ⟨#[117]⟩] (by decide) (by decide) (by decide)
  simp only [List.map_cons, List.map_nil, List.length_cons, List.length_nil] at hp
  have Hp := hide hp
  clear hp
  go_enter Try.func154, Try.ntmps154
  go_wp2_with (go_at_call 99; refine Calls.mono Hp.out ?_; rintro e w' ⟨y, rfl, hy, hc3, hg3⟩)
  go_ret
  exact ⟨y, rfl, hy, hc3, hg3⟩
end Go.Proofs.Ytaihdnlpdibkoaa
