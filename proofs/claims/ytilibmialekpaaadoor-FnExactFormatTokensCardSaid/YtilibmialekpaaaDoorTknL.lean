/- An argument that is a row of tokens, opened. Plain otherwise. -/
import Derived.Test.YtilibmialekpaaaDoorTkn
import Derived.Test.YtilibmialekpaaaDoorStrSl
namespace Go.Proofs.YtilibmialekpaaaDoor
set_option maxRecDepth 100000
open Go.RowKit Go.WideShapes
theorem open_TknL {H : Type} {enc : TypeId × Value → H} {w : World} {C base : Nat} {sp : Nat → Bool} {held : Bool} {v : Value} {d : DataW H} {p : List MemPlace} (hv : Value.okWide Tryd.prog w .any C 47 v)
    (h : DataW.Trod enc Tryd.prog w base sp held 47 v d p) : ∃ (D : Nat) (xs : List Tkn) (F : List Nat), SlR 4 (TknR D) w xs v F := by
  obtain ⟨a0, len, cap, rfl⟩ := okWide_slice Tryd.underlying47 hv
  obtain ⟨fuel, hf⟩ := h
  obtain ⟨xs, v, F, hcs, hs⟩ := open_SlR (n := 4) Tryd.underlying47 (by kernel_rfl) (by omega) (TknR fuel) hf (fun m cs y hm hy => by
    obtain ⟨e, F, he⟩ := cells_Tkn m hy
    exact ⟨e, F, he.up fuel (by omega)⟩)
  simp [Value.cells] at hcs
  subst hcs
  exact ⟨fuel, xs, F, hs⟩
end Go.Proofs.YtilibmialekpaaaDoor
