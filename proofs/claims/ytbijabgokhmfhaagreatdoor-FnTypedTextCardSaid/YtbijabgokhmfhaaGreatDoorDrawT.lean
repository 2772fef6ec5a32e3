/- The draw of a value with a type. Conditions: the code has at most 2^20 bytes. -/
import Derived.Test.YtbijabgokhmfhaaGreatDoorDraw
namespace Go.Proofs.YtbijabgokhmfhaaGreatDoor
set_option maxRecDepth 100000
open Go.RowKit

theorem s_l3Kind {b : Nat} {w : World} (hc : Cur w b) : Calls Tryz.prog 47 #[.pointer (some ⟨b, 0, none⟩)] w (Drawn 0 5 b w) := by
  have hp := s_pickNew hc [1, 2, 3, 4, 1, 2, 0, 5] 0 5 (by decide) (by decide) (by decide)
  simp only [List.map_cons, List.map_nil, List.length_cons, List.length_nil] at hp
  have Hp := hide hp
  clear hp
  go_enter Tryz.func47, Tryz.ntmps47
  go_wp2_with (go_at_call 57; refine Calls.mono Hp.out ?_; rintro e w' ⟨x, rfl, hx0, hx1, hc1, hg1⟩)
  go_ret
  exact Drawn.mk hx0 hx1 hc1 hg1

theorem s_DrawIsOfType (A : Option Addr) (n c : Nat) (zs : List Int) (w : World) (hr : Rd w w.heap.size A n (zs.map (Value.int .u8))) (hz : ∀ z ∈ zs, (Lit.int .u8 z).wf = true) (hn : n ≤ 1048576) :
    Calls Tryz.prog 25 #[.slice A n c] w (Drawn2 w.heap.size w) := by
  go_enter Tryz.func25, Tryz.ntmps25
  go_wp2_with fail
  refine (s_l1New A n c zs w hr hz hn).mono ?_
  rintro e w1 ⟨rfl, hc1, hb1, hl1⟩
  go_wp2_with fail
  refine (s_l3Kind hc1).mono ?_
  rintro e w2 ⟨kind, rfl, _, _, hc2, hg2⟩
  go_wp2_with fail
  refine (s_l1Once hc2 2 (by omega) (by omega)).mono ?_
  rintro e w3 ⟨x, rfl, hc3, hg3⟩
  cases x
  · go_wp2_with fail
    refine (s_l3Value hc3 kind).mono ?_
    rintro e w4 ⟨v, rfl, _, _, hc4, hg4⟩
    go_wp2_with fail
    go_ret2
    exact ⟨v, kind, rfl, hb1.trans (below_grown (grown_trans2 (grown_trans2 hg2 hg3) hg4) hl1)⟩
  · go_wp2_with fail
    refine (s_l3Any hc3).mono ?_
    rintro e w4 ⟨v, rfl, _, _, hc4, hg4⟩
    go_wp2_with fail
    go_ret2
    exact ⟨v, kind, rfl, hb1.trans (below_grown (grown_trans2 (grown_trans2 hg2 hg3) hg4) hl1)⟩
end Go.Proofs.YtbijabgokhmfhaaGreatDoor
