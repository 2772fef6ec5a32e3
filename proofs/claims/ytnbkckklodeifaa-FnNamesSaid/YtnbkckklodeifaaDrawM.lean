/- Lists of names drawn. Conditions: the bytes drawn from can be read. -/
import Derived.Test.YtnbkckklodeifaaDrawL
import Derived.Test.YtnbkckklodeifaaOwn
import Derived.Test.YtnbkckklodeifaaStrSl
namespace Go.Proofs.Ytnbkckklodeifaa
set_option maxRecDepth 100000
open Go.RowKit Go.WideShapes
set_option linter.unusedVariables false

theorem OwnS.grown {α : Type} {n B : Nat} {R : CR α} {e : TypeId} {w w' : World} {xs : List α} {v : Value} {F : List Nat} (hR : Good n R) (h : OwnS n R B e w xs v F) {b : Nat} (hb : b < B) (hg : w.grownBy w' (some b)) : OwnS n R B e w' xs v F := by
  have hk : ∀ k, B ≤ k → k < w.heap.size → w'.heap[k]? = w.heap[k]? := fun k h1 h2 => hg.block k h2 (fun e => by injection e; omega)
  have hF : ∀ k ∈ F, w'.heap[k]? = w.heap[k]? := fun k hk' => hk k (h.fresh.from_ k hk') (h.fresh.lt k hk')
  have hblk := h.blk
  obtain ⟨⟨cl, ⟨h1, h2⟩, hel⟩, h3, h4⟩ := h
  refine ⟨⟨cl, ⟨h1, ?_⟩, hel.frame hR hg.size hF⟩, h3.keep hF, h4⟩
  rcases h2 with h2 | ⟨g, cap, cur, h5, h6, h7, h8⟩
  · exact .inl h2
  · have hg2 := hblk g (by rw [h5]; rfl)
    exact .inr ⟨g, cap, cur, h5, h6, (hk g hg2.1 hg2.2).trans h7, h8⟩
theorem Cur.base {w w' : World} {b B : Nat} (h : Cur w b) (hb : Below B w w') (hB : b < B) : Cur w' b := by
  obtain ⟨A, n, c, zs, i, x, hh, h1, h2, hr, hz⟩ := h
  exact ⟨A, n, c, zs, i, x, (hb.block b hB).trans hh, h1, h2, hr.keep fun p hp => hb.cell (by omega), hz⟩
theorem grown_base {w w1 w2 : World} {b B : Nat} (h : w.grownBy w1 (some b)) (hg : Below B w1 w2) (hB : w.heap.size ≤ B) : w.grownBy w2 (some b) :=
  ⟨hg.os.trans h.os, hg.tape.trans h.tape, hg.output.trans h.output, Nat.le_trans h.size hg.size, fun k hk hne => (hg.block k (by omega)).trans (h.block k hk hne)⟩
theorem infoStr3 : (Try.prog.info? 9).map (fun i => (i.zero, i.size, i.bytes)) = some (some (.string ByteArray.empty), 1, 16) := by kernel_rfl
/-- A list of names drawn. -/
def DrawnL (b : Nat) (w : World) (e : Ending) (w' : World) : Prop := ∃ xs v G, e = .returned v ∧ xs.length ≤ 5 ∧ (∀ x ∈ xs, x.size ≤ 32) ∧ SlR 1 (StrR 0) w' xs v G ∧ Fresh w.heap.size w' G ∧ Cur w' b ∧ w.grownBy w' (some b)
set_option maxRecDepth 100000 in
set_option maxHeartbeats 2000000 in
theorem s_l2List {b : Nat} {w : World} (hc : Cur w b) : Calls Try.prog 16 #[.pointer (some ⟨b, 0, none⟩)] w (DrawnL b w) := by
  have hlt := hc.lt
  go_enter Try.func16, Try.ntmps16
  go_wp2_with fail
  have hb0 : Below w.heap.size w (w.alloc (.cells #[] 9)) := (Below.refl _ _).alloc (Nat.le_refl _) _
  have ho0 : OwnS 1 (StrR 0) w.heap.size 9 (w.alloc (.cells #[] 9)) [] (.slice (some ⟨w.heap.size, 0, none⟩) 0 0) [] := OwnS.made (n := 1) (R := StrR 0) (e := 9) w (Nat.le_refl _)
  have hc0 := hc.below hb0
  have hg0 : w.grownBy (w.alloc (.cells #[] 9)) (some b) := ⟨hb0.os, hb0.tape, hb0.output, hb0.size, fun k hk _ => hb0.block k hk⟩
  generalize w.alloc (.cells #[] 9) = W0 at hb0 ho0 hc0 hg0 ⊢
  refine (s_l1Below hc0 6 (by omega) (by omega)).mono ?_
  rintro e w1 ⟨n, rfl, hn0, hn1, hc1, hg1⟩
  have ho1 := ho0.grown (StrR.good 0) hlt hg1
  have hgw := grown_trans2 hg0 hg1
  clear hb0 ho0 hc0 hg0 hg1
  obtain ⟨N, rfl⟩ := Int.eq_ofNat_of_zero_le hn0
  go_wp2_with fail
  go_loopw [3, 5] (fun o i wr => ∃ (j : Nat) (xs : List ByteArray), j ≤ N ∧ i = .int .i64 j ∧ xs.length = j ∧ Hid (∀ x ∈ xs, x.size ≤ 32) ∧ Hid (OwnS 1 (StrR 0) w.heap.size 9 wr xs o []) ∧ Hid (Cur wr b) ∧ Hid (w.grownBy wr (some b))) (fun _ i _ => N - (intOf i).toNat)
  case atStart => exact ⟨0, [], by omega, rfl, rfl, hide (by simp), hide ho1, hide hc1, hide hgw⟩
  case round =>
    obtain ⟨j, xs, hj, rfl, hxl, Hx, Ho, Hc, Hg⟩ := hrel
    by_cases hlt2 : j < N
    · go_wp2_with fail
      refine (s_l2Any Hc.out).mono ?_
      rintro e w2 ⟨y, rfl, hy, hc2, hg2⟩
      have Ho2 := hide (Ho.out.grown (StrR.good 0) hlt hg2)
      have Hg2 := hide (grown_trans2 Hg.out hg2)
      have Hc2 := hide hc2
      clear hc2 hg2
      have Hz := hide Hg2.out.size
      go_wp2_with (at_builtin; refine app_ownS rfl (.tmp 14) (.tmp 17) 24 9 rfl Try.underlying24 infoStr3 rfl (by decide) (StrR.good 0) w2 w2 w.heap.size _ xs [] Ho2.out rfl (Below.refl _ _) y [.string y] [] ⟨rfl, by unfold maxLen; omega, rfl⟩ (Fresh.nil _ _) (by simp [Value.oneCell']) rfl (by omega) (by omega) Hz.out ?_; intro v1 w3 hown hbl)
      have Hown := hide hown
      have Hbl := hide hbl
      clear hown hbl
      go_wp2_with fail
      go_roundw
      case rel => exact ⟨j + 1, xs ++ [y], by omega, by go_num, by simp [hxl], hide (fun x hx => by rcases List.mem_append.1 hx with h | h; exact Hx.out x h; exact List.mem_singleton.1 h ▸ hy), hide Hown.out, hide (Hc2.out.base Hbl.out hlt), hide (grown_base Hg2.out Hbl.out (Nat.le_refl _))⟩
      case measure => simp [intOf]; omega
    · have hjl : j = N := by omega
      subst hjl
      go_wp2_with fail
      go_ret
      obtain ⟨G, h1, h2⟩ := Ho.out.slr (StrR.good 0)
      exact ⟨xs, _, G, rfl, by omega, Hx.out, h1, h2, Hc.out, Hg.out⟩
theorem s_DrawSortNames (A : Option Addr) (n c : Nat) (zs : List Int) (w : World) (hr : Rd w w.heap.size A n (zs.map (Value.int .u8))) (hz : ∀ z ∈ zs, (Lit.int .u8 z).wf = true) (hn : n ≤ 1048576) :
    Calls Try.prog 5 #[.slice A n c] w fun e w' => ∃ xs v G, e = .returned v ∧ xs.length ≤ 5 ∧ (∀ x ∈ xs, x.size ≤ 32) ∧ SlR 1 (StrR 0) w' xs v G ∧ Fresh w.heap.size w' G ∧ Below w.heap.size w w' := by
  go_enter Try.func5, Try.ntmps5
  go_wp2_with fail
  refine (s_l1New A n c zs w hr hz hn).mono ?_
  rintro e w1 ⟨rfl, hc1, hb1, hl1⟩
  go_wp2_with fail
  refine (s_l2List hc1).mono ?_
  rintro e w2 ⟨xs, v, G, rfl, hx, hs, h1, h2, hc2, hg2⟩
  go_wp2_with fail
  go_ret
  exact ⟨xs, v, G, rfl, hx, hs, h1, h2.mono hb1.size, hb1.trans (below_grown hg2 hl1)⟩
end Go.Proofs.Ytnbkckklodeifaa
