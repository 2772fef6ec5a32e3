/- Symbols as text: both sides. Conditions: the symbol is not long; the program's: its words of modes and types are laid. -/
import Derived.Test.YtilndebjnibgjaaDoorSymTP
import Derived.Test.YtilndebjnibgjaaDoorWords
import Derived.Test.YtilndebjnibgjaaDoorBox
import Derived.Deep.RegionHeld3
import Derived.Deep.RegionWith
import Derived.Deep.QuietTactic
import Derived.BigQuiet
namespace Go.Proofs.YtilndebjnibgjaaDoor
set_option maxRecDepth 100000
open Go.RowKit Go.WideShapes
set_option linter.unusedVariables false

theorem held_mono {P : Program} {md : Region.Mode} {ops : Array Oper} {Q : Exit → Act → World → Prop} {S S' : World → Prop} (hS : ∀ W, S' W → S W) : ∀ (fuel : Nat) (listed : Array Bool) (a : Act) (w : World), wpAnyH P md ops Q S' fuel listed a w → wpAnyH P md ops Q S fuel listed a w
  | 0, _, _, _, h => h
  | fuel + 1, _, _, _, h => ⟨h.1, fun i hi => wpOp_mono (fun a' w' h' => ⟨hS _ h'.1, held_mono hS fuel _ a' w' h'.2⟩) (h.2 i hi)⟩
theorem cat_assoc (a b c : ByteArray) : a ++ b ++ c = a ++ (b ++ c) := by apply ByteArray.ext; simp [Array.append_assoc]
theorem cat_none (a : ByteArray) : a ++ ⟨#[]⟩ = a := by apply ByteArray.ext; simp
def modeWs : List ByteArray := [⟨#[105, 110, 104]⟩, ⟨#[115, 121, 110]⟩, ⟨#[99, 111, 108]⟩]
def typeWs : List ByteArray := [⟨#[110, 117, 109]⟩, ⟨#[115, 101, 116]⟩, ⟨#[98, 111, 111, 108]⟩, ⟨#[110, 111, 100, 101]⟩]
theorem sym_flat (o n m t : ByteArray) (c : Bool) {a : Atr} (h : fmtA a = ⟨#[32]⟩ ++ n ++ ⟨#[58]⟩ ++ m ++ ⟨#[58]⟩ ++ t ++ (if c then ⟨#[33]⟩ else ⟨#[]⟩)) :
    (c = true → o ++ ⟨#[32]⟩ ++ n ++ ⟨#[58]⟩ ++ m ++ ⟨#[58]⟩ ++ t ++ ⟨#[33]⟩ = o ++ fmtA a) ∧ (c = false → o ++ ⟨#[32]⟩ ++ n ++ ⟨#[58]⟩ ++ m ++ ⟨#[58]⟩ ++ t = o ++ fmtA a) ∧
    (c = true → o ++ (⟨#[32]⟩ ++ n ++ ⟨#[58]⟩ ++ m ++ ⟨#[58]⟩ ++ t) ++ ⟨#[33]⟩ = o ++ fmtA a) ∧ (c = false → o ++ (⟨#[32]⟩ ++ n ++ ⟨#[58]⟩ ++ m ++ ⟨#[58]⟩ ++ t) = o ++ fmtA a) := by
  refine ⟨?_, ?_, ?_, ?_⟩ <;> (rintro rfl; rw [h]; simp only [cat_assoc, cat_none, if_pos, if_neg, Bool.false_eq_true, ite_false, ite_true])
theorem s_l8Modes (w : World) : Calls Tryd.prog 20 #[] w fun en w' => ∃ b : Nat, en = .returned (.slice (some ⟨b, 0, none⟩) 4 4) ∧ w.heap.size ≤ b ∧ b < w'.heap.size ∧ (∀ (j : Nat) z, (⟨#[]⟩ :: modeWs)[j]? = some z → w'.cell? ⟨b, j, none⟩ = some (.string z)) ∧ Below w.heap.size w w' := by
  go_enter Tryd.func20, Tryd.ntmps20
  go_wp2_with fail
  go_ret
  refine ⟨w.heap.size, rfl, Nat.le_refl _, by rw [World.size_alloc]; exact Nat.lt_succ_self _, fun j z hz => ?_, (Below.refl _ _).alloc (Nat.le_refl _) _⟩
  have h : ((⟨#[]⟩ :: modeWs).map Value.string)[j]? = some (.string z) := by rw [List.getElem?_map, hz]; rfl
  have h2 := CellsAt.new w ((⟨#[]⟩ :: modeWs).map Value.string) 9 j _ h
  rw [Nat.zero_add] at h2
  exact h2
theorem s_l8Types (w : World) : Calls Tryd.prog 21 #[] w fun en w' => ∃ b : Nat, en = .returned (.slice (some ⟨b, 0, none⟩) 5 5) ∧ w.heap.size ≤ b ∧ b < w'.heap.size ∧ (∀ (j : Nat) z, (⟨#[]⟩ :: typeWs)[j]? = some z → w'.cell? ⟨b, j, none⟩ = some (.string z)) ∧ Below w.heap.size w w' := by
  go_enter Tryd.func21, Tryd.ntmps21
  go_wp2_with fail
  go_ret
  refine ⟨w.heap.size, rfl, Nat.le_refl _, by rw [World.size_alloc]; exact Nat.lt_succ_self _, fun j z hz => ?_, (Below.refl _ _).alloc (Nat.le_refl _) _⟩
  have h : ((⟨#[]⟩ :: typeWs).map Value.string)[j]? = some (.string z) := by rw [List.getElem?_map, hz]; rfl
  have h2 := CellsAt.new w ((⟨#[]⟩ :: typeWs).map Value.string) 9 j _ h
  rw [Nat.zero_add] at h2
  exact h2
set_option maxRecDepth 100000 in
set_option maxHeartbeats 4000000 in
theorem s_FormatSymbol (D : Nat) (x : Sym) (cs : List Value) (F : List Nat) (w : World) (h : SymR D w x cs F) (hn : x.attrs.length ≤ 1048576) :
    Calls Tryd.prog 8 #[.agg cs.toArray] w fun en w' => en = .returned (.string (fmtSym x)) ∧ Below w.heap.size w w' := by
  obtain ⟨c0, c1, rfl⟩ := list2 ((SymR.good D).len h)
  have HFe := hide ((SymR.good D).lt h)
  have HX0 : Hid (∀ W : World, Below w.heap.size w W → SymR D W x [c0, c1] F) := hide fun W hW => (SymR.good D).below h hW HFe.out
  obtain ⟨v1, F1, _, hk, h0, ⟨h1, g1⟩, rfl⟩ := h
  obtain rfl := Option.some.inj h0
  obtain rfl := Option.some.inj h1
  obtain ⟨A, cap, rfl, hlc, hm⟩ := g1.form
  have hname := hk.name
  unfold maxLen at hname
  have HF := hide (g1.lt (AtrR.good D))
  have Hs := hide g1
  have hmm : x.attrs.length ≤ 9223372036854775807 := by omega
  have hcc : (x.attrs.length : Int) ≤ (cap : Int) := by omega
  clear hk g1 hlc hm
  obtain ⟨C, hz0, hw0⟩ := boxes1 w [.string x.name, .slice A x.attrs.length cap] 26
  show Calls _ _ #[.agg #[.string x.name, .slice A x.attrs.length cap]] w _
  go_enter Tryd.func8, Tryd.ntmps8
  go_wp2_with fail
  generalize w.alloc (Obj.cells #[.string x.name, .slice A x.attrs.length cap] 26) = W0 at C hz0 hw0 ⊢
  have hn0 : w.heap.size + 1 ≤ W0.heap.size := by omega
  have Hw : Hid (∀ W : World, Below (w.heap.size + 1) W0 W → Below w.heap.size w W) := hide fun W h => hw0.trans (h.mono (by omega))
  have e0 := cell_rule C (n := w.heap.size + 1) (by omega) 0 (v := .string x.name) rfl
  have e1 := cell_rule C (n := w.heap.size + 1) (by omega) 1 (v := .slice A x.attrs.length cap) rfl
  have hA0 : ∀ (W : World) (o : Obj), Below (w.heap.size + 1) W0 W → Below (w.heap.size + 1) W0 (W.alloc o) := fun _ o h => below_alloc hn0 o h
  clear C hz0
  refine Calls.mono (s_IsValidSymbol D x _ F _ (HX0.out _ hw0) hn) ?_
  rintro en W1 ⟨rfl, hb⟩
  have hB1 : Below (w.heap.size + 1) W0 W1 := below_step (Below.refl _ _) hn0 hb
  clear hb hw0
  cases hv : validY x
  · have Hr : Hid (fmtSym x = ⟨#[]⟩) := hide (by unfold fmtSym; rw [hv]; rfl)
    clear hv
    go_wp2_with fail
    go_ret
    exact ⟨ret_string Hr.out.symm, Hw.out _ hB1⟩
  have Hr : Hid (fmtSym x = symT x x.attrs.length) := hide (by unfold fmtSym; rw [hv]; rfl)
  have Hsz : Hid (∀ j, (symT x j).size ≤ 95) := hide fun j => symT_size hv j
  have Hva : Hid (∀ (j : Nat) y, x.attrs[j]? = some y → vA y = true) := hide fun j y hy => by
    unfold validY at hv
    simp only [Bool.and_eq_true] at hv
    exact List.all_eq_true.1 hv.1 y (List.mem_of_getElem? hy)
  have H0 : Hid (symT x 0 = ⟨#[115, 121, 109, 98, 111, 108, 32]⟩ ++ x.name) := hide rfl
  have HB1 := hide hB1
  have hn8 : x.name.size ≤ 8 := by
    unfold validY at hv
    simp only [Bool.and_eq_true] at hv
    exact nameV_size hv.2.1
  clear hv hname
  go_wp2_with fail
  go_loopw [3, 4, 5] (fun o i k5 wr => ∃ j : Nat, j ≤ x.attrs.length ∧ i = .int .i64 j ∧ o = .string (symT x j) ∧ Hid (Below (w.heap.size + 1) W0 wr)) (fun _ i _ _ => x.attrs.length - (RowKit.intOf i).toNat)
  case atStart => exact ⟨0, by omega, rfl, by rw [H0.out], HB1⟩
  case round =>
    obtain ⟨j, hj, rfl, rfl, Hb⟩ := hrel
    have hBr := Hb.out
    by_cases hlt : j < x.attrs.length
    · have hx : x.attrs[j]? = some x.attrs[j] := List.getElem?_eq_getElem hlt
      generalize x.attrs[j] = y at hx
      obtain ⟨b, off, cs, Fk, hA, _, hbF, hFk, hcl, hcat, hR⟩ := SlR.get (AtrR.good D) (Hs.out.below (AtrR.good D) (Hw.out _ Hb.out) HF.out) hx
      subst hA
      obtain ⟨c0, c1, c2, c3, rfl⟩ := list4 hcl
      obtain ⟨_, hk, h0, h1, h2, h3, rfl⟩ := hR
      obtain rfl := Option.some.inj h0
      obtain rfl := Option.some.inj h1
      obtain rfl := Option.some.inj h2
      obtain rfl := Option.some.inj h3
      obtain ⟨g0, g1, g2, g3⟩ := hcat.four
      have hblt := Nat.lt_of_lt_of_le (HF.out b hbF) (Hw.out _ Hb.out).size
      have hj0 : (0 : Int) ≤ (j : Int) := by omega
      have hj1 : (j : Int) < (x.attrs.length : Int) := by omega
      obtain ⟨p0, p1, p2, p3, p4⟩ := vA_parts (Hva.out j y hx)
      have hos := Hsz.out j
      have hst := symT_next hx
      clear hx hcat hFk hbF hcl hk h0 h1 h2 h3
      obtain ⟨nm, ty, md, ci⟩ := y
      simp only at g0 g1 g2 g3 p0 p1 p2 p3 p4
      have hfm := sym_flat (symT x j) nm (modeW md) (typeW ty) ci (a := ⟨nm, ty, md, ci⟩) rfl
      rw [← hst] at hfm
      have hms := modeW_size md
      have hts := typeW_size ty
      clear hst
      have hmw : ∀ z, (⟨#[]⟩ :: modeWs)[md.toNat]? = some z → z = modeW md := by
        intro z hz
        have hc : md = 1 ∨ md = 2 ∨ md = 3 := by omega
        rcases hc with rfl | rfl | rfl <;> (obtain rfl := Option.some.inj hz; rfl)
      have htw : ∀ z, (⟨#[]⟩ :: typeWs)[ty.toNat]? = some z → z = typeW ty := by
        intro z hz
        have hc : ty = 1 ∨ ty = 2 ∨ ty = 3 ∨ ty = 4 := by omega
        rcases hc with rfl | rfl | rfl | rfl <;> (obtain rfl := Option.some.inj hz; rfl)
      obtain ⟨mn, rfl⟩ : ∃ mn : Nat, md = mn := ⟨md.toNat, by omega⟩
      obtain ⟨tn, rfl⟩ : ∃ tn : Nat, ty = tn := ⟨ty.toNat, by omega⟩
      have hmx : (⟨#[]⟩ :: modeWs)[mn]? = some (modeW mn) := by
        have h1 : mn < (⟨#[]⟩ :: modeWs).length := by show mn < 4; omega
        rw [List.getElem?_eq_getElem h1, hmw ((⟨#[]⟩ :: modeWs)[mn]) (by rw [Int.toNat_natCast]; exact List.getElem?_eq_getElem h1)]
      have htx : (⟨#[]⟩ :: typeWs)[tn]? = some (typeW tn) := by
        have h1 : tn < (⟨#[]⟩ :: typeWs).length := by show tn < 5; omega
        rw [List.getElem?_eq_getElem h1, htw ((⟨#[]⟩ :: typeWs)[tn]) (by rw [Int.toNat_natCast]; exact List.getElem?_eq_getElem h1)]
      clear hmw htw
      have hm4 : (mn : Int) < 4 := by omega
      have ht5 : (tn : Int) < 5 := by omega
      have hm0 : (0 : Int) ≤ (mn : Int) := by omega
      have ht0 : (0 : Int) ≤ (tn : Int) := by omega
      generalize modeW mn = M at hfm hms hmx
      generalize typeW tn = T at hfm hts htx
      have Hmx := hide hmx
      have Htx := hide htx
      have Hfm := hide hfm
      clear hmx htx hfm p1 p2 p3 p4
      generalize symT x j = ot at hos Hfm ⊢
      obtain ⟨C, hz1, hw1⟩ := boxes1 wr [.string nm, .int .i64 tn, .int .i64 mn, .bool ci] 33
      have hb1 : Below (w.heap.size + 1) W0 (wr.alloc (Obj.cells #[.string nm, .int .i64 tn, .int .i64 mn, .bool ci] 33)) := hA0 _ _ hBr
      have HC := hide C
      have Hb1 := hide hb1
      have Hz1 := hide hz1
      clear C hz1 hw1 hb1 hblt
      go_wp2_with fail
      generalize wr.alloc (Obj.cells #[.string nm, .int .i64 tn, .int .i64 mn, .bool ci] 33) = V1 at HC Hb1 Hz1 ⊢
      have hz1 := Hz1.out
      have hb1 := Hb1.out
      have a0 := cell_rule HC.out (n := V1.heap.size) (by omega) 0 (v := .string nm) rfl
      have a1 := cell_rule HC.out (n := V1.heap.size) (by omega) 1 (v := .int .i64 tn) rfl
      have a2 := cell_rule HC.out (n := V1.heap.size) (by omega) 2 (v := .int .i64 mn) rfl
      have a3 := cell_rule HC.out (n := V1.heap.size) (by omega) 3 (v := .bool ci) rfl
      have hV1 : Below V1.heap.size V1 V1 := Below.refl _ _
      have Hn1 : Hid (w.heap.size + 1 ≤ V1.heap.size) := hide (by have := Hb.out.size; omega)
      clear hBr e0 e1 hA0 g0 g1 g2 g3 hz1 hb1
      have q0 : ¬ 9223372036854775807 < ot.size + 1 := by omega
      have q1 : ¬ 9223372036854775807 < ot.size + 1 + nm.size := by omega
      have q2 : ¬ 9223372036854775807 < ot.size + 1 + nm.size + 1 := by omega
      have q3 : ¬ 9223372036854775807 < ot.size + 1 + nm.size + 1 + M.size := by omega
      have q4 : ¬ 9223372036854775807 < ot.size + 1 + nm.size + 1 + M.size + 1 := by omega
      have q5 : ¬ 9223372036854775807 < ot.size + 1 + nm.size + 1 + M.size + 1 + T.size := by omega
      have q6 : ¬ 9223372036854775807 < ot.size + 1 + nm.size + 1 + M.size + 1 + T.size + 1 := by omega
      refine wp_region_held_drew (S := fun W => Below V1.heap.size V1 W) (by kernel_rfl) (Below.drew hV1) (fun hHeld => ?_)
      refine wpAnyH_take (i := 0) (v := ?v_1) rfl (by kernel_rfl) (by kernel_rfl) (by kernel_rfl) (fun _ _ _ h => h) (Or.inl ⟨by rfl, ?hy_1⟩) hHeld ?_
      case hy_1 =>
        intro w hSw
        try dsimp only at hSw
        go_simp
        try with_reducible rfl
      try simp only [Act.put, List.setIfInBounds_toArray, List.set_cons_zero, List.set_cons_succ]
      refine wpAnyH_take (i := 1) (v := ?v_2) rfl (by kernel_rfl) (by kernel_rfl) (by kernel_rfl) (fun _ _ _ h => h) (Or.inl ⟨by rfl, ?hy_2⟩) hHeld ?_
      case hy_2 =>
        intro w hSw
        try dsimp only at hSw
        go_simp
        try with_reducible rfl
      try simp only [Act.put, List.setIfInBounds_toArray, List.set_cons_zero, List.set_cons_succ]
      refine wpAnyH_take (i := 2) (v := ?v_3) rfl (by kernel_rfl) (by kernel_rfl) (by kernel_rfl) (fun _ _ _ h => h) (Or.inl ⟨by rfl, ?hy_3⟩) hHeld ?_
      case hy_3 =>
        intro w hSw
        try dsimp only at hSw
        go_simp
        try with_reducible rfl
      try simp only [Act.put, List.setIfInBounds_toArray, List.set_cons_zero, List.set_cons_succ]
      refine wpAnyH_take (i := 3) (v := ?v_4) rfl (by kernel_rfl) (by kernel_rfl) (by kernel_rfl) (fun _ _ _ h => h) (Or.inl ⟨by rfl, ?hy_4⟩) hHeld ?_
      case hy_4 =>
        intro w hSw
        try dsimp only at hSw
        go_simp
        try with_reducible rfl
      try simp only [Act.put, List.setIfInBounds_toArray, List.set_cons_zero, List.set_cons_succ]
      refine wpAnyH_take (i := 4) (v := ?v_5) rfl (by kernel_rfl) (by kernel_rfl) (by kernel_rfl) (fun _ _ _ h => h) (Or.inl ⟨by rfl, ?hy_5⟩) hHeld ?_
      case hy_5 =>
        intro w hSw
        try dsimp only at hSw
        go_simp
        try with_reducible rfl
      try simp only [Act.put, List.setIfInBounds_toArray, List.set_cons_zero, List.set_cons_succ]
      refine wpAnyH_take (i := 5) (v := ?v_6) rfl (by kernel_rfl) (by kernel_rfl) (by kernel_rfl) (fun _ _ _ h => h) (Or.inl ⟨by rfl, ?hy_6⟩) hHeld ?_
      case hy_6 =>
        intro w hSw
        try dsimp only at hSw
        go_simp
        try with_reducible rfl
      try simp only [Act.put, List.setIfInBounds_toArray, List.set_cons_zero, List.set_cons_succ]
      refine wpAnyH_take (i := 7) (v := ?v_7) rfl (by kernel_rfl) (by kernel_rfl) (by kernel_rfl) (fun _ _ _ h => h) (Or.inl ⟨by rfl, ?hy_7⟩) hHeld ?_
      case hy_7 =>
        intro w hSw
        try dsimp only at hSw
        go_simp
        try with_reducible rfl
      try simp only [Act.put, List.setIfInBounds_toArray, List.set_cons_zero, List.set_cons_succ]
      refine wpAnyH_take (i := 8) (v := ?v_8) rfl (by kernel_rfl) (by kernel_rfl) (by kernel_rfl) (fun _ _ _ h => h) (Or.inl ⟨by rfl, ?hy_8⟩) hHeld ?_
      case hy_8 =>
        intro w hSw
        try dsimp only at hSw
        go_simp
        try with_reducible rfl
      try simp only [Act.put, List.setIfInBounds_toArray, List.set_cons_zero, List.set_cons_succ]
      refine wpAnyH_take (i := 14) (v := ?v_9) rfl (by kernel_rfl) (by kernel_rfl) (by kernel_rfl) (fun _ _ _ h => h) (Or.inl ⟨by rfl, ?hy_9⟩) hHeld ?_
      case hy_9 =>
        intro w hSw
        try dsimp only at hSw
        go_simp
        try with_reducible rfl
      try simp only [Act.put, List.setIfInBounds_toArray, List.set_cons_zero, List.set_cons_succ]
      refine wpAnyH_take (i := 15) (v := ?v_10) rfl (by kernel_rfl) (by kernel_rfl) (by kernel_rfl) (fun _ _ _ h => h) (Or.inl ⟨by rfl, ?hy_10⟩) hHeld ?_
      case hy_10 =>
        intro w hSw
        try dsimp only at hSw
        go_simp
        try with_reducible rfl
      try simp only [Act.put, List.setIfInBounds_toArray, List.set_cons_zero, List.set_cons_succ]
      refine wpAnyH_ready (rs := [6]) (by kernel_rfl) (by simp) ?_
      refine AllReadyH.cons rfl (fun K hK => ?_) AllReadyH.nil
      go_simp
      go_at_call 20
      refine Calls.mono (s_l8Modes _) ?_
      rintro en W4 ⟨bm, rfl, hbm, hbm2, hcm, hb⟩
      have hW4 : Below V1.heap.size V1 W4 := below_step (Below.drew hV1) (Nat.le_refl _) hb
      have hM4 : ∀ W : World, Below W4.heap.size W4 W → W.cell? ⟨bm, mn, none⟩ = some (.string M) := fun W h => (h.cell (p := ⟨bm, mn, none⟩) hbm2).trans (hcm mn _ Hmx.out)
      clear hbm hbm2 hcm hb
      go_wp2_with fail
      refine hK.out _ _ ?hs_11 (fun hHeld => ?_)
      case hs_11 => exact hW4
      clear hHeld hK
      try simp only [Act.put, List.setIfInBounds_toArray, List.set_cons_zero, List.set_cons_succ]
      refine held_mono (S' := fun W => Below W4.heap.size W4 W) (fun W h => hW4.trans (h.mono hW4.size)) _ _ _ _ ?_
      have hHeld : Below W4.heap.size W4 W4 := Below.refl _ _
      refine wpAnyH_take (i := 9) (v := ?v_12) rfl (by kernel_rfl) (by kernel_rfl) (by kernel_rfl) (fun _ _ _ h => h) (Or.inl ⟨by rfl, ?hy_12⟩) hHeld ?_
      case hy_12 =>
        intro w hSw
        try dsimp only at hSw
        go_simp
        try with_reducible rfl
      try simp only [Act.put, List.setIfInBounds_toArray, List.set_cons_zero, List.set_cons_succ]
      refine wpAnyH_take (i := 10) (v := ?v_13) rfl (by kernel_rfl) (by kernel_rfl) (by kernel_rfl) (fun _ _ _ h => h) (Or.inl ⟨by rfl, ?hy_13⟩) hHeld ?_
      case hy_13 =>
        intro w hSw
        try dsimp only at hSw
        go_simp
        try with_reducible rfl
      try simp only [Act.put, List.setIfInBounds_toArray, List.set_cons_zero, List.set_cons_succ]
      refine wpAnyH_take (i := 11) (v := ?v_14) rfl (by kernel_rfl) (by kernel_rfl) (by kernel_rfl) (fun _ _ _ h => h) (Or.inl ⟨by rfl, ?hy_14⟩) hHeld ?_
      case hy_14 =>
        intro w hSw
        try dsimp only at hSw
        go_simp
        try with_reducible rfl
      try simp only [Act.put, List.setIfInBounds_toArray, List.set_cons_zero, List.set_cons_succ]
      refine wpAnyH_take (i := 12) (v := ?v_15) rfl (by kernel_rfl) (by kernel_rfl) (by kernel_rfl) (fun _ _ _ h => h) (Or.inl ⟨by rfl, ?hy_15⟩) hHeld ?_
      case hy_15 =>
        intro w hSw
        try dsimp only at hSw
        go_simp
        try with_reducible rfl
      try simp only [Act.put, List.setIfInBounds_toArray, List.set_cons_zero, List.set_cons_succ]
      refine wpAnyH_ready (rs := [13]) (by kernel_rfl) (by simp) ?_
      refine AllReadyH.cons rfl (fun K hK => ?_) AllReadyH.nil
      go_simp
      go_at_call 21
      refine Calls.mono (s_l8Types _) ?_
      rintro en W5 ⟨bt, rfl, hbt, hbt2, hct, hb⟩
      have hW5 : Below V1.heap.size V1 W5 := below_step hW4 (Nat.le_refl _) hb
      have hT5 : ∀ W : World, Below W5.heap.size W5 W → W.cell? ⟨bt, tn, none⟩ = some (.string T) := fun W h => (h.cell (p := ⟨bt, tn, none⟩) hbt2).trans (hct tn _ Htx.out)
      have hB45 := hb
      clear hbt hbt2 hct hb
      go_wp2_with fail
      refine hK.out _ _ ?hs_16 (fun hHeld => ?_)
      case hs_16 => exact hB45
      clear hHeld hK
      try simp only [Act.put, List.setIfInBounds_toArray, List.set_cons_zero, List.set_cons_succ]
      refine held_mono (S' := fun W => Below W5.heap.size W5 W) (fun W h => hB45.trans (h.mono hB45.size)) _ _ _ _ ?_
      have hHeld : Below W5.heap.size W5 W5 := Below.refl _ _
      refine wpAnyH_take (i := 16) (v := ?v_17) rfl (by kernel_rfl) (by kernel_rfl) (by kernel_rfl) (fun _ _ _ h => h) (Or.inl ⟨by rfl, ?hy_17⟩) hHeld ?_
      case hy_17 =>
        intro w hSw
        try dsimp only at hSw
        go_simp
        try with_reducible rfl
      try simp only [Act.put, List.setIfInBounds_toArray, List.set_cons_zero, List.set_cons_succ]
      refine wpAnyH_take (i := 17) (v := ?v_18) rfl (by kernel_rfl) (by kernel_rfl) (by kernel_rfl) (fun _ _ _ h => h) (Or.inl ⟨by rfl, ?hy_18⟩) hHeld ?_
      case hy_18 =>
        intro w hSw
        try dsimp only at hSw
        go_simp
        try with_reducible rfl
      try simp only [Act.put, List.setIfInBounds_toArray, List.set_cons_zero, List.set_cons_succ]
      refine wpAnyH_take (i := 18) (v := ?v_19) rfl (by kernel_rfl) (by kernel_rfl) (by kernel_rfl) (fun _ _ _ h => h) (Or.inl ⟨by rfl, ?hy_19⟩) hHeld ?_
      case hy_19 =>
        intro w hSw
        try dsimp only at hSw
        go_simp
        try with_reducible rfl
      try simp only [Act.put, List.setIfInBounds_toArray, List.set_cons_zero, List.set_cons_succ]
      refine wpAnyH_take (i := 19) (v := ?v_20) rfl (by kernel_rfl) (by kernel_rfl) (by kernel_rfl) (fun _ _ _ h => h) (Or.inl ⟨by rfl, ?hy_20⟩) hHeld ?_
      case hy_20 =>
        intro w hSw
        try dsimp only at hSw
        go_simp
        try with_reducible rfl
      try simp only [Act.put, List.setIfInBounds_toArray, List.set_cons_zero, List.set_cons_succ]
      refine wpAnyH_done (by kernel_rfl) ?_ _
      clear hHeld hB45 hM4 hT5
      all_goals
        have hBn : Below (w.heap.size + 1) W0 W5 := Hb1.out.trans (hW5.mono Hn1.out)
        have HBn := hide hBn
        clear hBn
        cases ci
        all_goals
         go_wp2_with fail
         first
          | (refine ⟨⟨j + 1, by omega, by go_num, by rw [Hfm.out.2.1 rfl], HBn⟩, by simp [RowKit.intOf]; omega⟩)
          | (refine ⟨⟨j + 1, by omega, by go_num, by rw [Hfm.out.1 rfl], HBn⟩, by simp [RowKit.intOf]; omega⟩)
    · have hjl : j = x.attrs.length := by omega
      subst hjl
      have hos := Hsz.out x.attrs.length
      go_wp2_with fail
      go_ret
      exact ⟨ret_string Hr.out.symm, Hw.out _ Hb.out⟩
set_option maxRecDepth 100000 in
set_option maxHeartbeats 4000000 in
theorem i_FormatSymbol (D : Nat) (x : Sym) (cs : List Value) (F : List Nat) (w : World) (h : SymR D w x cs F) (hn : x.attrs.length ≤ 1048576) (hM : WordsIs w 0 modeWs) (hT : WordsIs w 1 typeWs) :
    Calls Tryd.prog 6 #[.agg cs.toArray] w fun en w' => en = .returned (.string (fmtSym x)) ∧ Below w.heap.size w w' := by
  obtain ⟨c0, c1, rfl⟩ := list2 ((SymR.good D).len h)
  have HFe := hide ((SymR.good D).lt h)
  have HX0 : Hid (∀ W : World, Below w.heap.size w W → SymR D W x [c0, c1] F) := hide fun W hW => (SymR.good D).below h hW HFe.out
  obtain ⟨v1, F1, _, hk, h0, ⟨h1, g1⟩, rfl⟩ := h
  obtain rfl := Option.some.inj h0
  obtain rfl := Option.some.inj h1
  obtain ⟨A, cap, rfl, hlc, hm⟩ := g1.form
  have hname := hk.name
  unfold maxLen at hname
  have HF := hide (g1.lt (AtrR.good D))
  have Hs := hide g1
  have hmm : x.attrs.length ≤ 9223372036854775807 := by omega
  have hcc : (x.attrs.length : Int) ≤ (cap : Int) := by omega
  clear hk g1 hlc hm
  have HM : Hid (∀ W : World, Below w.heap.size w W → WordsIs W 0 modeWs) := hide fun W hW => hM.below (hM.lt (by decide)) hW
  have HT : Hid (∀ W : World, Below w.heap.size w W → WordsIs W 1 typeWs) := hide fun W hW => hT.below (hT.lt (by decide)) hW
  clear hM hT
  obtain ⟨C, hz0, hw0⟩ := boxes1 w [.string x.name, .slice A x.attrs.length cap] 26
  show Calls _ _ #[.agg #[.string x.name, .slice A x.attrs.length cap]] w _
  go_enter Tryd.func6, Tryd.ntmps6
  go_wp2_with fail
  generalize w.alloc (Obj.cells #[.string x.name, .slice A x.attrs.length cap] 26) = W0 at C hz0 hw0 ⊢
  have hn0 : w.heap.size + 1 ≤ W0.heap.size := by omega
  have Hw : Hid (∀ W : World, Below (w.heap.size + 1) W0 W → Below w.heap.size w W) := hide fun W h => hw0.trans (h.mono (by omega))
  have e0 := cell_rule C (n := w.heap.size + 1) (by omega) 0 (v := .string x.name) rfl
  have e1 := cell_rule C (n := w.heap.size + 1) (by omega) 1 (v := .slice A x.attrs.length cap) rfl
  have hA0 : ∀ (W : World) (o : Obj), Below (w.heap.size + 1) W0 W → Below (w.heap.size + 1) W0 (W.alloc o) := fun _ o h => below_alloc hn0 o h
  clear C hz0
  refine Calls.mono (i_IsValidSymbol D x _ F _ (HX0.out _ hw0) hn) ?_
  rintro en W1 ⟨rfl, hb⟩
  have hB1 : Below (w.heap.size + 1) W0 W1 := below_step (Below.refl _ _) hn0 hb
  clear hb hw0
  cases hv : validY x
  · have Hr : Hid (fmtSym x = ⟨#[]⟩) := hide (by unfold fmtSym; rw [hv]; rfl)
    clear hv
    go_wp2_with fail
    go_ret
    exact ⟨ret_string Hr.out.symm, Hw.out _ hB1⟩
  have Hr : Hid (fmtSym x = symT x x.attrs.length) := hide (by unfold fmtSym; rw [hv]; rfl)
  have Hsz : Hid (∀ j, (symT x j).size ≤ 95) := hide fun j => symT_size hv j
  have Hva : Hid (∀ (j : Nat) y, x.attrs[j]? = some y → vA y = true) := hide fun j y hy => by
    unfold validY at hv
    simp only [Bool.and_eq_true] at hv
    exact List.all_eq_true.1 hv.1 y (List.mem_of_getElem? hy)
  have H0 : Hid (symT x 0 = ⟨#[115, 121, 109, 98, 111, 108, 32]⟩ ++ x.name) := hide rfl
  have HB1 := hide hB1
  have hn8 : x.name.size ≤ 8 := by
    unfold validY at hv
    simp only [Bool.and_eq_true] at hv
    exact nameV_size hv.2.1
  clear hv hname
  go_wp2_with fail
  go_loopw [3, 5, 15] (fun o k5 i wr => ∃ j : Nat, j ≤ x.attrs.length ∧ i = .int .i64 j ∧ o = .string (symT x j) ∧ Hid (Below (w.heap.size + 1) W0 wr)) (fun _ _ i _ => x.attrs.length - (RowKit.intOf i).toNat)
  case atStart => exact ⟨0, by omega, rfl, by rw [H0.out], HB1⟩
  case round =>
    obtain ⟨j, hj, rfl, rfl, Hb⟩ := hrel
    have hBr := Hb.out
    by_cases hlt : j < x.attrs.length
    · have hx : x.attrs[j]? = some x.attrs[j] := List.getElem?_eq_getElem hlt
      generalize x.attrs[j] = y at hx
      obtain ⟨b, off, cs, Fk, hA, _, hbF, hFk, hcl, hcat, hR⟩ := SlR.get (AtrR.good D) (Hs.out.below (AtrR.good D) (Hw.out _ Hb.out) HF.out) hx
      subst hA
      obtain ⟨c0, c1, c2, c3, rfl⟩ := list4 hcl
      obtain ⟨_, hk, h0, h1, h2, h3, rfl⟩ := hR
      obtain rfl := Option.some.inj h0
      obtain rfl := Option.some.inj h1
      obtain rfl := Option.some.inj h2
      obtain rfl := Option.some.inj h3
      obtain ⟨g0, g1, g2, g3⟩ := hcat.four
      have hblt := Nat.lt_of_lt_of_le (HF.out b hbF) (Hw.out _ Hb.out).size
      have hj0 : (0 : Int) ≤ (j : Int) := by omega
      have hj1 : (j : Int) < (x.attrs.length : Int) := by omega
      obtain ⟨p0, p1, p2, p3, p4⟩ := vA_parts (Hva.out j y hx)
      have hos := Hsz.out j
      have hst := symT_next hx
      clear hx hcat hFk hbF hcl hk h0 h1 h2 h3
      obtain ⟨nm, ty, md, ci⟩ := y
      simp only at g0 g1 g2 g3 p0 p1 p2 p3 p4
      have hfm := sym_flat (symT x j) nm (modeW md) (typeW ty) ci (a := ⟨nm, ty, md, ci⟩) rfl
      rw [← hst] at hfm
      have hms := modeW_size md
      have hts := typeW_size ty
      clear hst
      have hmg : (HM.out wr (Hw.out _ Hb.out)) = (HM.out wr (Hw.out _ Hb.out)) := rfl
      have hmm1 := HM.out (wr.alloc (Obj.cells #[.string nm, .int .i64 ty, .int .i64 md, .bool ci] 33)) (Hw.out _ (hA0 _ _ Hb.out))
      have htm1 := HT.out (wr.alloc (Obj.cells #[.string nm, .int .i64 ty, .int .i64 md, .bool ci] 33)) (Hw.out _ (hA0 _ _ Hb.out))
      have hc : md = 1 ∨ md = 2 ∨ md = 3 := by omega
      have hd : ty = 1 ∨ ty = 2 ∨ ty = 3 ∨ ty = 4 := by omega
      clear hmg p1 p2 p3 p4
      rcases hc with rfl | rfl | rfl
      · have hgm := hmm1 0 _ rfl
        rw [show (⟨#[105, 110, 104]⟩ : ByteArray) = modeW 1 from rfl] at hgm
        generalize modeW 1 = M at hfm hms hgm
        clear hmm1
        rcases hd with rfl | rfl | rfl | rfl
        · have hgt := htm1 0 _ rfl
          rw [show (⟨#[110, 117, 109]⟩ : ByteArray) = typeW 1 from rfl] at hgt
          generalize typeW 1 = T at hfm hts hgt
          have Hfm := hide hfm
          clear hfm htm1
          generalize symT x j = ot at hos Hfm ⊢
          have q0 : ¬ 9223372036854775807 < 1 + nm.size := by omega
          have q1 : ¬ 9223372036854775807 < 1 + nm.size + 1 := by omega
          have q2 : ¬ 9223372036854775807 < 1 + nm.size + 1 + M.size := by omega
          have q3 : ¬ 9223372036854775807 < 1 + nm.size + 1 + M.size + 1 := by omega
          have q4 : ¬ 9223372036854775807 < 1 + nm.size + 1 + M.size + 1 + T.size := by omega
          have q5 : ¬ 9223372036854775807 < ot.size + (1 + nm.size + 1 + M.size + 1 + T.size) := by omega
          have q6 : ¬ 9223372036854775807 < ot.size + (1 + nm.size + 1 + M.size + 1 + T.size) + 1 := by omega
          cases ci
          all_goals
            go_wp2_with fail
            go_quiet (fail)
            go_wp2_with fail
            first
              | (refine ⟨⟨j + 1, by omega, by go_num, by rw [Hfm.out.2.2.2 (by first | rfl | trivial)], hide (below_drewN (hA0 _ _ Hb.out) _)⟩, by simp [RowKit.intOf]; omega⟩)
              | (refine ⟨⟨j + 1, by omega, by go_num, by rw [Hfm.out.2.2.1 (by first | rfl | trivial)], hide (below_drewN (hA0 _ _ Hb.out) _)⟩, by simp [RowKit.intOf]; omega⟩)
        · have hgt := htm1 1 _ rfl
          rw [show (⟨#[115, 101, 116]⟩ : ByteArray) = typeW 2 from rfl] at hgt
          generalize typeW 2 = T at hfm hts hgt
          have Hfm := hide hfm
          clear hfm htm1
          generalize symT x j = ot at hos Hfm ⊢
          have q0 : ¬ 9223372036854775807 < 1 + nm.size := by omega
          have q1 : ¬ 9223372036854775807 < 1 + nm.size + 1 := by omega
          have q2 : ¬ 9223372036854775807 < 1 + nm.size + 1 + M.size := by omega
          have q3 : ¬ 9223372036854775807 < 1 + nm.size + 1 + M.size + 1 := by omega
          have q4 : ¬ 9223372036854775807 < 1 + nm.size + 1 + M.size + 1 + T.size := by omega
          have q5 : ¬ 9223372036854775807 < ot.size + (1 + nm.size + 1 + M.size + 1 + T.size) := by omega
          have q6 : ¬ 9223372036854775807 < ot.size + (1 + nm.size + 1 + M.size + 1 + T.size) + 1 := by omega
          cases ci
          all_goals
            go_wp2_with fail
            go_quiet (fail)
            go_wp2_with fail
            first
              | (refine ⟨⟨j + 1, by omega, by go_num, by rw [Hfm.out.2.2.2 (by first | rfl | trivial)], hide (below_drewN (hA0 _ _ Hb.out) _)⟩, by simp [RowKit.intOf]; omega⟩)
              | (refine ⟨⟨j + 1, by omega, by go_num, by rw [Hfm.out.2.2.1 (by first | rfl | trivial)], hide (below_drewN (hA0 _ _ Hb.out) _)⟩, by simp [RowKit.intOf]; omega⟩)
        · have hgt := htm1 2 _ rfl
          rw [show (⟨#[98, 111, 111, 108]⟩ : ByteArray) = typeW 3 from rfl] at hgt
          generalize typeW 3 = T at hfm hts hgt
          have Hfm := hide hfm
          clear hfm htm1
          generalize symT x j = ot at hos Hfm ⊢
          have q0 : ¬ 9223372036854775807 < 1 + nm.size := by omega
          have q1 : ¬ 9223372036854775807 < 1 + nm.size + 1 := by omega
          have q2 : ¬ 9223372036854775807 < 1 + nm.size + 1 + M.size := by omega
          have q3 : ¬ 9223372036854775807 < 1 + nm.size + 1 + M.size + 1 := by omega
          have q4 : ¬ 9223372036854775807 < 1 + nm.size + 1 + M.size + 1 + T.size := by omega
          have q5 : ¬ 9223372036854775807 < ot.size + (1 + nm.size + 1 + M.size + 1 + T.size) := by omega
          have q6 : ¬ 9223372036854775807 < ot.size + (1 + nm.size + 1 + M.size + 1 + T.size) + 1 := by omega
          cases ci
          all_goals
            go_wp2_with fail
            go_quiet (fail)
            go_wp2_with fail
            first
              | (refine ⟨⟨j + 1, by omega, by go_num, by rw [Hfm.out.2.2.2 (by first | rfl | trivial)], hide (below_drewN (hA0 _ _ Hb.out) _)⟩, by simp [RowKit.intOf]; omega⟩)
              | (refine ⟨⟨j + 1, by omega, by go_num, by rw [Hfm.out.2.2.1 (by first | rfl | trivial)], hide (below_drewN (hA0 _ _ Hb.out) _)⟩, by simp [RowKit.intOf]; omega⟩)
        · have hgt := htm1 3 _ rfl
          rw [show (⟨#[110, 111, 100, 101]⟩ : ByteArray) = typeW 4 from rfl] at hgt
          generalize typeW 4 = T at hfm hts hgt
          have Hfm := hide hfm
          clear hfm htm1
          generalize symT x j = ot at hos Hfm ⊢
          have q0 : ¬ 9223372036854775807 < 1 + nm.size := by omega
          have q1 : ¬ 9223372036854775807 < 1 + nm.size + 1 := by omega
          have q2 : ¬ 9223372036854775807 < 1 + nm.size + 1 + M.size := by omega
          have q3 : ¬ 9223372036854775807 < 1 + nm.size + 1 + M.size + 1 := by omega
          have q4 : ¬ 9223372036854775807 < 1 + nm.size + 1 + M.size + 1 + T.size := by omega
          have q5 : ¬ 9223372036854775807 < ot.size + (1 + nm.size + 1 + M.size + 1 + T.size) := by omega
          have q6 : ¬ 9223372036854775807 < ot.size + (1 + nm.size + 1 + M.size + 1 + T.size) + 1 := by omega
          cases ci
          all_goals
            go_wp2_with fail
            go_quiet (fail)
            go_wp2_with fail
            first
              | (refine ⟨⟨j + 1, by omega, by go_num, by rw [Hfm.out.2.2.2 (by first | rfl | trivial)], hide (below_drewN (hA0 _ _ Hb.out) _)⟩, by simp [RowKit.intOf]; omega⟩)
              | (refine ⟨⟨j + 1, by omega, by go_num, by rw [Hfm.out.2.2.1 (by first | rfl | trivial)], hide (below_drewN (hA0 _ _ Hb.out) _)⟩, by simp [RowKit.intOf]; omega⟩)
      · have hgm := hmm1 1 _ rfl
        rw [show (⟨#[115, 121, 110]⟩ : ByteArray) = modeW 2 from rfl] at hgm
        generalize modeW 2 = M at hfm hms hgm
        clear hmm1
        rcases hd with rfl | rfl | rfl | rfl
        · have hgt := htm1 0 _ rfl
          rw [show (⟨#[110, 117, 109]⟩ : ByteArray) = typeW 1 from rfl] at hgt
          generalize typeW 1 = T at hfm hts hgt
          have Hfm := hide hfm
          clear hfm htm1
          generalize symT x j = ot at hos Hfm ⊢
          have q0 : ¬ 9223372036854775807 < 1 + nm.size := by omega
          have q1 : ¬ 9223372036854775807 < 1 + nm.size + 1 := by omega
          have q2 : ¬ 9223372036854775807 < 1 + nm.size + 1 + M.size := by omega
          have q3 : ¬ 9223372036854775807 < 1 + nm.size + 1 + M.size + 1 := by omega
          have q4 : ¬ 9223372036854775807 < 1 + nm.size + 1 + M.size + 1 + T.size := by omega
          have q5 : ¬ 9223372036854775807 < ot.size + (1 + nm.size + 1 + M.size + 1 + T.size) := by omega
          have q6 : ¬ 9223372036854775807 < ot.size + (1 + nm.size + 1 + M.size + 1 + T.size) + 1 := by omega
          cases ci
          all_goals
            go_wp2_with fail
            go_quiet (fail)
            go_wp2_with fail
            first
              | (refine ⟨⟨j + 1, by omega, by go_num, by rw [Hfm.out.2.2.2 (by first | rfl | trivial)], hide (below_drewN (hA0 _ _ Hb.out) _)⟩, by simp [RowKit.intOf]; omega⟩)
              | (refine ⟨⟨j + 1, by omega, by go_num, by rw [Hfm.out.2.2.1 (by first | rfl | trivial)], hide (below_drewN (hA0 _ _ Hb.out) _)⟩, by simp [RowKit.intOf]; omega⟩)
        · have hgt := htm1 1 _ rfl
          rw [show (⟨#[115, 101, 116]⟩ : ByteArray) = typeW 2 from rfl] at hgt
          generalize typeW 2 = T at hfm hts hgt
          have Hfm := hide hfm
          clear hfm htm1
          generalize symT x j = ot at hos Hfm ⊢
          have q0 : ¬ 9223372036854775807 < 1 + nm.size := by omega
          have q1 : ¬ 9223372036854775807 < 1 + nm.size + 1 := by omega
          have q2 : ¬ 9223372036854775807 < 1 + nm.size + 1 + M.size := by omega
          have q3 : ¬ 9223372036854775807 < 1 + nm.size + 1 + M.size + 1 := by omega
          have q4 : ¬ 9223372036854775807 < 1 + nm.size + 1 + M.size + 1 + T.size := by omega
          have q5 : ¬ 9223372036854775807 < ot.size + (1 + nm.size + 1 + M.size + 1 + T.size) := by omega
          have q6 : ¬ 9223372036854775807 < ot.size + (1 + nm.size + 1 + M.size + 1 + T.size) + 1 := by omega
          cases ci
          all_goals
            go_wp2_with fail
            go_quiet (fail)
            go_wp2_with fail
            first
              | (refine ⟨⟨j + 1, by omega, by go_num, by rw [Hfm.out.2.2.2 (by first | rfl | trivial)], hide (below_drewN (hA0 _ _ Hb.out) _)⟩, by simp [RowKit.intOf]; omega⟩)
              | (refine ⟨⟨j + 1, by omega, by go_num, by rw [Hfm.out.2.2.1 (by first | rfl | trivial)], hide (below_drewN (hA0 _ _ Hb.out) _)⟩, by simp [RowKit.intOf]; omega⟩)
        · have hgt := htm1 2 _ rfl
          rw [show (⟨#[98, 111, 111, 108]⟩ : ByteArray) = typeW 3 from rfl] at hgt
          generalize typeW 3 = T at hfm hts hgt
          have Hfm := hide hfm
          clear hfm htm1
          generalize symT x j = ot at hos Hfm ⊢
          have q0 : ¬ 9223372036854775807 < 1 + nm.size := by omega
          have q1 : ¬ 9223372036854775807 < 1 + nm.size + 1 := by omega
          have q2 : ¬ 9223372036854775807 < 1 + nm.size + 1 + M.size := by omega
          have q3 : ¬ 9223372036854775807 < 1 + nm.size + 1 + M.size + 1 := by omega
          have q4 : ¬ 9223372036854775807 < 1 + nm.size + 1 + M.size + 1 + T.size := by omega
          have q5 : ¬ 9223372036854775807 < ot.size + (1 + nm.size + 1 + M.size + 1 + T.size) := by omega
          have q6 : ¬ 9223372036854775807 < ot.size + (1 + nm.size + 1 + M.size + 1 + T.size) + 1 := by omega
          cases ci
          all_goals
            go_wp2_with fail
            go_quiet (fail)
            go_wp2_with fail
            first
              | (refine ⟨⟨j + 1, by omega, by go_num, by rw [Hfm.out.2.2.2 (by first | rfl | trivial)], hide (below_drewN (hA0 _ _ Hb.out) _)⟩, by simp [RowKit.intOf]; omega⟩)
              | (refine ⟨⟨j + 1, by omega, by go_num, by rw [Hfm.out.2.2.1 (by first | rfl | trivial)], hide (below_drewN (hA0 _ _ Hb.out) _)⟩, by simp [RowKit.intOf]; omega⟩)
        · have hgt := htm1 3 _ rfl
          rw [show (⟨#[110, 111, 100, 101]⟩ : ByteArray) = typeW 4 from rfl] at hgt
          generalize typeW 4 = T at hfm hts hgt
          have Hfm := hide hfm
          clear hfm htm1
          generalize symT x j = ot at hos Hfm ⊢
          have q0 : ¬ 9223372036854775807 < 1 + nm.size := by omega
          have q1 : ¬ 9223372036854775807 < 1 + nm.size + 1 := by omega
          have q2 : ¬ 9223372036854775807 < 1 + nm.size + 1 + M.size := by omega
          have q3 : ¬ 9223372036854775807 < 1 + nm.size + 1 + M.size + 1 := by omega
          have q4 : ¬ 9223372036854775807 < 1 + nm.size + 1 + M.size + 1 + T.size := by omega
          have q5 : ¬ 9223372036854775807 < ot.size + (1 + nm.size + 1 + M.size + 1 + T.size) := by omega
          have q6 : ¬ 9223372036854775807 < ot.size + (1 + nm.size + 1 + M.size + 1 + T.size) + 1 := by omega
          cases ci
          all_goals
            go_wp2_with fail
            go_quiet (fail)
            go_wp2_with fail
            first
              | (refine ⟨⟨j + 1, by omega, by go_num, by rw [Hfm.out.2.2.2 (by first | rfl | trivial)], hide (below_drewN (hA0 _ _ Hb.out) _)⟩, by simp [RowKit.intOf]; omega⟩)
              | (refine ⟨⟨j + 1, by omega, by go_num, by rw [Hfm.out.2.2.1 (by first | rfl | trivial)], hide (below_drewN (hA0 _ _ Hb.out) _)⟩, by simp [RowKit.intOf]; omega⟩)
      · have hgm := hmm1 2 _ rfl
        rw [show (⟨#[99, 111, 108]⟩ : ByteArray) = modeW 3 from rfl] at hgm
        generalize modeW 3 = M at hfm hms hgm
        clear hmm1
        rcases hd with rfl | rfl | rfl | rfl
        · have hgt := htm1 0 _ rfl
          rw [show (⟨#[110, 117, 109]⟩ : ByteArray) = typeW 1 from rfl] at hgt
          generalize typeW 1 = T at hfm hts hgt
          have Hfm := hide hfm
          clear hfm htm1
          generalize symT x j = ot at hos Hfm ⊢
          have q0 : ¬ 9223372036854775807 < 1 + nm.size := by omega
          have q1 : ¬ 9223372036854775807 < 1 + nm.size + 1 := by omega
          have q2 : ¬ 9223372036854775807 < 1 + nm.size + 1 + M.size := by omega
          have q3 : ¬ 9223372036854775807 < 1 + nm.size + 1 + M.size + 1 := by omega
          have q4 : ¬ 9223372036854775807 < 1 + nm.size + 1 + M.size + 1 + T.size := by omega
          have q5 : ¬ 9223372036854775807 < ot.size + (1 + nm.size + 1 + M.size + 1 + T.size) := by omega
          have q6 : ¬ 9223372036854775807 < ot.size + (1 + nm.size + 1 + M.size + 1 + T.size) + 1 := by omega
          cases ci
          all_goals
            go_wp2_with fail
            go_quiet (fail)
            go_wp2_with fail
            first
              | (refine ⟨⟨j + 1, by omega, by go_num, by rw [Hfm.out.2.2.2 (by first | rfl | trivial)], hide (below_drewN (hA0 _ _ Hb.out) _)⟩, by simp [RowKit.intOf]; omega⟩)
              | (refine ⟨⟨j + 1, by omega, by go_num, by rw [Hfm.out.2.2.1 (by first | rfl | trivial)], hide (below_drewN (hA0 _ _ Hb.out) _)⟩, by simp [RowKit.intOf]; omega⟩)
        · have hgt := htm1 1 _ rfl
          rw [show (⟨#[115, 101, 116]⟩ : ByteArray) = typeW 2 from rfl] at hgt
          generalize typeW 2 = T at hfm hts hgt
          have Hfm := hide hfm
          clear hfm htm1
          generalize symT x j = ot at hos Hfm ⊢
          have q0 : ¬ 9223372036854775807 < 1 + nm.size := by omega
          have q1 : ¬ 9223372036854775807 < 1 + nm.size + 1 := by omega
          have q2 : ¬ 9223372036854775807 < 1 + nm.size + 1 + M.size := by omega
          have q3 : ¬ 9223372036854775807 < 1 + nm.size + 1 + M.size + 1 := by omega
          have q4 : ¬ 9223372036854775807 < 1 + nm.size + 1 + M.size + 1 + T.size := by omega
          have q5 : ¬ 9223372036854775807 < ot.size + (1 + nm.size + 1 + M.size + 1 + T.size) := by omega
          have q6 : ¬ 9223372036854775807 < ot.size + (1 + nm.size + 1 + M.size + 1 + T.size) + 1 := by omega
          cases ci
          all_goals
            go_wp2_with fail
            go_quiet (fail)
            go_wp2_with fail
            first
              | (refine ⟨⟨j + 1, by omega, by go_num, by rw [Hfm.out.2.2.2 (by first | rfl | trivial)], hide (below_drewN (hA0 _ _ Hb.out) _)⟩, by simp [RowKit.intOf]; omega⟩)
              | (refine ⟨⟨j + 1, by omega, by go_num, by rw [Hfm.out.2.2.1 (by first | rfl | trivial)], hide (below_drewN (hA0 _ _ Hb.out) _)⟩, by simp [RowKit.intOf]; omega⟩)
        · have hgt := htm1 2 _ rfl
          rw [show (⟨#[98, 111, 111, 108]⟩ : ByteArray) = typeW 3 from rfl] at hgt
          generalize typeW 3 = T at hfm hts hgt
          have Hfm := hide hfm
          clear hfm htm1
          generalize symT x j = ot at hos Hfm ⊢
          have q0 : ¬ 9223372036854775807 < 1 + nm.size := by omega
          have q1 : ¬ 9223372036854775807 < 1 + nm.size + 1 := by omega
          have q2 : ¬ 9223372036854775807 < 1 + nm.size + 1 + M.size := by omega
          have q3 : ¬ 9223372036854775807 < 1 + nm.size + 1 + M.size + 1 := by omega
          have q4 : ¬ 9223372036854775807 < 1 + nm.size + 1 + M.size + 1 + T.size := by omega
          have q5 : ¬ 9223372036854775807 < ot.size + (1 + nm.size + 1 + M.size + 1 + T.size) := by omega
          have q6 : ¬ 9223372036854775807 < ot.size + (1 + nm.size + 1 + M.size + 1 + T.size) + 1 := by omega
          cases ci
          all_goals
            go_wp2_with fail
            go_quiet (fail)
            go_wp2_with fail
            first
              | (refine ⟨⟨j + 1, by omega, by go_num, by rw [Hfm.out.2.2.2 (by first | rfl | trivial)], hide (below_drewN (hA0 _ _ Hb.out) _)⟩, by simp [RowKit.intOf]; omega⟩)
              | (refine ⟨⟨j + 1, by omega, by go_num, by rw [Hfm.out.2.2.1 (by first | rfl | trivial)], hide (below_drewN (hA0 _ _ Hb.out) _)⟩, by simp [RowKit.intOf]; omega⟩)
        · have hgt := htm1 3 _ rfl
          rw [show (⟨#[110, 111, 100, 101]⟩ : ByteArray) = typeW 4 from rfl] at hgt
          generalize typeW 4 = T at hfm hts hgt
          have Hfm := hide hfm
          clear hfm htm1
          generalize symT x j = ot at hos Hfm ⊢
          have q0 : ¬ 9223372036854775807 < 1 + nm.size := by omega
          have q1 : ¬ 9223372036854775807 < 1 + nm.size + 1 := by omega
          have q2 : ¬ 9223372036854775807 < 1 + nm.size + 1 + M.size := by omega
          have q3 : ¬ 9223372036854775807 < 1 + nm.size + 1 + M.size + 1 := by omega
          have q4 : ¬ 9223372036854775807 < 1 + nm.size + 1 + M.size + 1 + T.size := by omega
          have q5 : ¬ 9223372036854775807 < ot.size + (1 + nm.size + 1 + M.size + 1 + T.size) := by omega
          have q6 : ¬ 9223372036854775807 < ot.size + (1 + nm.size + 1 + M.size + 1 + T.size) + 1 := by omega
          cases ci
          all_goals
            go_wp2_with fail
            go_quiet (fail)
            go_wp2_with fail
            first
              | (refine ⟨⟨j + 1, by omega, by go_num, by rw [Hfm.out.2.2.2 (by first | rfl | trivial)], hide (below_drewN (hA0 _ _ Hb.out) _)⟩, by simp [RowKit.intOf]; omega⟩)
              | (refine ⟨⟨j + 1, by omega, by go_num, by rw [Hfm.out.2.2.1 (by first | rfl | trivial)], hide (below_drewN (hA0 _ _ Hb.out) _)⟩, by simp [RowKit.intOf]; omega⟩)
    · have hjl : j = x.attrs.length := by omega
      subst hjl
      have hos := Hsz.out x.attrs.length
      go_wp2_with fail
      go_ret
      exact ⟨ret_string Hr.out.symm, Hw.out _ Hb.out⟩
end Go.Proofs.YtilndebjnibgjaaDoor
