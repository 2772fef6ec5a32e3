/- Symbols and lines of symbols drawn. Conditions: the bytes drawn from can be read. -/
import Derived.Test.YtilndebjnibgjaaDoorSymB
namespace Go.Proofs.YtilndebjnibgjaaDoor
set_option maxRecDepth 100000
open Go.RowKit Go.WideShapes Go.Lib
set_option linter.unusedVariables false

set_option maxRecDepth 100000 in
theorem s_DrawFormatSymbol (A : Option Addr) (n c : Nat) (zs : List Int) (w : World) (hr : Rd w w.heap.size A n (zs.map (Value.int .u8))) (hz : ∀ z ∈ zs, (Lit.int .u8 z).wf = true) (hn : n ≤ 1048576) :
    Calls Tryd.prog 5 #[.slice A n c] w fun e w' => ∃ (x : Sym) (us : List Value) (G : List Nat), e = .returned (.agg us.toArray) ∧ SymR 0 w' x us G ∧ shortY x ∧ Below w.heap.size w w' := by
  have His : Hid ((Tryd.prog.info? 26).map (·.size) = some 2) := hide (by kernel_rfl)
  have hb0 : Below w.heap.size w (w.alloc (Obj.cells #[.string ⟨#[]⟩, .slice none 0 0] 26)) := (Below.refl _ _).alloc (Nat.le_refl _) _
  have za0 := heap_alloc_new w (Obj.cells #[.string ⟨#[]⟩, .slice none 0 0] 26)
  have hr0 := (hr.below hb0).more hb0.size
  have hz0 := World.size_alloc w (Obj.cells #[.string ⟨#[]⟩, .slice none 0 0] 26)
  have Hr0 := hide hr0
  have Hza0 := hide za0
  have Hz0 := hide hz0
  have Hb0 := hide hb0
  have Hz := hide hz
  clear hr0 za0 hz0 hb0 hr hz
  go_enter Tryd.func5, Tryd.ntmps5
  go_wp2_with fail
  generalize w.alloc (Obj.cells #[.string ⟨#[]⟩, .slice none 0 0] 26) = W0 at Hr0 Hza0 Hz0 Hb0 ⊢
  refine (s_l1New A n c zs W0 Hr0.out Hz.out hn).mono ?_
  rintro e w1 ⟨rfl, hc1, hb1, hl1⟩
  have za1 := blk_below Hza0.out hb1 (blk_lt Hza0.out)
  go_wp2_with fail
  refine (s_l8Bent hc1).mono ?_
  rintro e w2 ⟨x, v, rfl, ⟨B, hB, ho⟩, hsh, hc2, hg2⟩
  have hbl : Below w.heap.size w w2 := Hb0.out.trans ((hb1.trans (below_grown hg2 hl1)).mono (by have := Hz0.out; omega))
  have za2 := (hg2.block _ (blk_lt za1) (by intro e; injection e with e; have := Hz0.out; omega)).trans za1
  have Hza2 := hide za2
  have Hbl := hide hbl
  have Hsh := hide hsh
  have Ho := hide ho
  have hBw : w.heap.size < B := by have := hb1.size; have := Hz0.out; omega
  clear ho hbl hg2 hc2 hc1 hb1 hsh za1 za2
  go_wp2_with (refine wpList_store_at 26 (.tmp 2) (.tmp 5) (cs := [.string x.name, v]) rfl His.out rfl rfl rfl rfl (by obtain ⟨A9, c9, rfl, _, _⟩ := Ho.out.form; simp [Value.oneCell']) Hza2.out (by decide) ?_; intro WF hP; have HP := hide hP; clear hP)
  obtain ⟨x0, x1⟩ := HP.out.cellsAt.two0
  have hoF := OwnS.keep1 (AtrR.good 0) Ho.out (fun k hk => HP.out.far k (by have := (Ho.out.blk k hk).1; omega)) (by rw [HP.out.size]; exact Nat.le_refl _)
  obtain ⟨G, hG, _⟩ := hoF.slr (AtrR.good 0)
  exact bodyPost_ret (v := .agg #[.string x.name, v]) (by simp [results, Tryd.results5, go_sem, x0, x1]) rfl ⟨x, [.string x.name, v], G, rfl, ⟨_, G, rfl, ⟨by have := Hsh.out.1; unfold maxLen; omega⟩, rfl, ⟨rfl, hG⟩, rfl⟩, Hsh.out, Hbl.out.trans (HP.out.below (Nat.le_refl _))⟩
theorem foldA_size : ∀ (l : List Atr) (o : ByteArray), (∀ a ∈ l, a.name.size ≤ 32) → (l.foldl (fun o a => o ++ fmtA a) o).size ≤ o.size + 50 * l.length
  | [], o, _ => by simp
  | a :: l, o, h => by
    have h1 := foldA_size l (o ++ fmtA a) (fun x hx => h x (by simp [hx]))
    have h2 : (fmtA a).size ≤ 50 := by
      have hn := h a (by simp)
      have hm := modeW_size a.mode
      have ht := typeW_size a.type
      have hs : ∀ z : ByteArray, z.size = z.data.toList.length := fun z => by rw [Array.length_toList]; rfl
      rw [hs, fmtA_data]
      unfold attrL
      have e1 : (if a.circ = true then [(33 : UInt8)] else []).length ≤ 1 := by split <;> simp
      rw [hs] at hn hm ht
      simp only [List.length_cons, List.length_append]
      omega
    rw [List.foldl_cons]
    have h3 : (o ++ fmtA a).size = o.size + (fmtA a).size := by simp
    rw [List.length_cons]
    omega
theorem fmtSym_small {x : Sym} (h : shortY x) : (fmtSym x).size ≤ 400 := by
  unfold fmtSym
  split
  · unfold symT
    rw [List.take_length]
    have h1 := foldA_size x.attrs (⟨#[115, 121, 109, 98, 111, 108, 32]⟩ ++ x.name) (fun a ha => (h.2.2.2 a ha).2)
    have h2 : ((⟨#[115, 121, 109, 98, 111, 108, 32]⟩ : ByteArray) ++ x.name).size = 7 + x.name.size := by simp; rfl
    have h3 := h.1
    have h4 := h.2.1
    omega
  · show (0 : Nat) ≤ 400
    omega
set_option maxRecDepth 100000 in
set_option maxHeartbeats 2000000 in
theorem s_DrawParseSymbol (A : Option Addr) (n c : Nat) (zs : List Int) (w : World) (hr : Rd w w.heap.size A n (zs.map (Value.int .u8))) (hz : ∀ z ∈ zs, (Lit.int .u8 z).wf = true) (hn : n ≤ 1048576) :
    Calls Tryd.prog 12 #[.slice A n c] w fun e w' => ∃ x : ByteArray, e = .returned (.string x) ∧ x.size ≤ 10100 ∧ Below w.heap.size w w' := by
  go_enter Tryd.func12, Tryd.ntmps12
  go_wp2_with fail
  refine (s_l1New A n c zs w hr hz hn).mono ?_
  rintro e w1 ⟨rfl, hc1, hb1, hl1⟩
  go_wp2_with fail
  refine (s_l8Draw hc1 ⟨#[115]⟩ (by decide)).mono ?_
  rintro e w2 ⟨x, v, rfl, ⟨B, hB, ho⟩, hsh, hc2, hg2⟩
  have hbl : Below w.heap.size w w2 := hb1.trans (below_grown hg2 hl1)
  obtain ⟨G, hG, _⟩ := ho.slr (AtrR.good 0)
  have HX : Hid (SymR 0 w2 x [.string x.name, v] G) := hide ⟨_, G, rfl, ⟨by have := hsh.1; unfold maxLen; omega⟩, rfl, ⟨rfl, hG⟩, rfl⟩
  have Hbl := hide hbl
  have Hsh := hide hsh
  have Hc2 := hide hc2
  clear ho hG hbl hg2 hc2 hc1 hb1 hsh
  go_wp2_with fail
  refine (s_FormatSymbol 0 x _ G w2 HX.out (by have := Hsh.out.2.1; omega)).mono ?_
  rintro e w3 ⟨rfl, hb3⟩
  have hc3 := Hc2.out.below hb3
  have hz3 := fmtSym_small Hsh.out
  have HB := hide (Hbl.out.trans (hb3.mono Hbl.out.size))
  have hl3 := hc3.lt
  generalize fmtSym x = T at hz3 ⊢
  have hp := s_turnNewS hc3 T (by omega) [⟨#[32]⟩, ⟨#[58]⟩, ⟨#[33]⟩, ⟨#[120]⟩, ⟨#[115, 121, 110]⟩, ⟨#[115, 121, 109, 98, 111, 108]⟩] (by decide) (by decide) (by decide)
  simp only [List.map_cons, List.map_nil, List.length_cons, List.length_nil] at hp
  have Hp := hide hp
  clear hp hb3 hc3
  go_wp2_with (go_at_call 28; refine Calls.mono Hp.out ?_; rintro e w5 ⟨z, rfl, hz5, hc5, hg5⟩)
  go_ret
  exact ⟨z, rfl, hz5, HB.out.trans (below_grown hg5 (by have := Hbl.out.size; omega))⟩
end Go.Proofs.YtilndebjnibgjaaDoor
