/- Symbols read from a line: the reference's attribute of a word. Conditions: the word has at most 2^20 bytes. -/
import Derived.Test.YtilndebjnibgjaaDoorSymPQ
import Derived.Test.YtilndebjnibgjaaDoorSplitB
import Derived.Test.YtilndebjnibgjaaDoorSymTx
import Derived.Test.YtilndebjnibgjaaDoorOwnR
import Derived.Deep.RegionHeld3
import Derived.Deep.QuietTactic
import Derived.BigQuiet
import Derived.Sort.AtCall
namespace Go.Proofs.YtilndebjnibgjaaDoor
set_option maxRecDepth 100000
open Go.RowKit Go.WideShapes Go.Lib
set_option linter.unusedVariables false

theorem attS_odd {w : List UInt8} (h : (splitL w 58).length ≠ 3) : attS w = zeroA := by
  unfold attS
  split
  · rename_i p0 p1 p2 e
    rw [e] at h
    exact absurd rfl h
  · rfl
theorem rd_modes {w w' : World} {b : Nat} (h : ∀ (j : Nat) z, (⟨#[]⟩ :: modeWs)[j]? = some z → w.cell? ⟨b, j, none⟩ = some (.string z)) (hb : b < w.heap.size) : Rd w w.heap.size (some ⟨b, 0, none⟩) 4 (modesS.map Value.string) :=
  ⟨rfl, fun _ => ⟨b, 0, rfl, hb, fun j u hu => by
    rw [List.getElem?_map] at hu
    cases hz : modesS[j]? with
    | none => rw [hz] at hu; cases hu
    | some z =>
      rw [hz] at hu
      obtain rfl := Option.some.inj hu
      rw [Nat.zero_add]
      exact h j z hz⟩⟩
theorem rd_types {w w' : World} {b : Nat} (h : ∀ (j : Nat) z, (⟨#[]⟩ :: typeWs)[j]? = some z → w.cell? ⟨b, j, none⟩ = some (.string z)) (hb : b < w.heap.size) : Rd w w.heap.size (some ⟨b, 0, none⟩) 5 (typesS.map Value.string) :=
  ⟨rfl, fun _ => ⟨b, 0, rfl, hb, fun j u hu => by
    rw [List.getElem?_map] at hu
    cases hz : typesS[j]? with
    | none => rw [hz] at hu; cases hu
    | some z =>
      rw [hz] at hu
      obtain rfl := Option.some.inj hu
      rw [Nat.zero_add]
      exact h j z hz⟩⟩
theorem tok_cells {w : World} {b : Nat} {T : TypeId} {n : ByteArray} {m : Int} {c : Bool} (h : w.heap[b]? = some (.cells #[.string n, .int .i64 0, .int .i64 m, .bool c] T (0, 0))) (t : Int) :
    CellsAt (w.setCell ⟨b, 1, none⟩ (.int .i64 t)) b 0 [.string n, .int .i64 t, .int .i64 m, .bool c] := fun j u hu => by
  rw [cell_of_row _ _ _ _ _ _ (heap_setCell_same w b 1 _ _ (.int .i64 t) h)]
  match j, hu with
  | 0, hu => exact hu
  | 1, hu => exact hu
  | 2, hu => exact hu
  | 3, hu => exact hu
set_option maxRecDepth 100000 in
set_option maxHeartbeats 4000000 in
theorem s_l8Attribute (s : ByteArray) (hs : s.size ≤ 1048576) (w : World) :
    Calls Tryd.prog 31 #[.string s] w fun en w' => en = .returned (.agg #[.string (attS s.data.toList).name, .int .i64 (attS s.data.toList).type, .int .i64 (attS s.data.toList).mode, .bool (attS s.data.toList).circ]) ∧ Below w.heap.size w w' := by
  have Hi : Hid ((Tryd.prog.info? 33).map (·.size) = some 4) := hide (by kernel_rfl)
  go_enter Tryd.func31, Tryd.ntmps31
  go_wp2_with fail
  have hB0 : Below w.heap.size w ((w.alloc (.cells #[.string ⟨#[]⟩, .int .i64 0, .int .i64 0, .bool false] 33)).alloc (.cells #[.string ⟨#[]⟩, .int .i64 0, .int .i64 0, .bool false] 33)) := ((Below.refl _ _).alloc (Nat.le_refl _) _).alloc (by rw [World.size_alloc]; exact Nat.le_succ _) _
  refine Calls.mono (s_SplitByte 0 s 58 hs _) ?_
  rintro en w2 ⟨v2, G2, rfl, hsl, hf, hb⟩
  have zb0 : w2.heap[w.heap.size]? = some (.cells #[.string ⟨#[]⟩, .int .i64 0, .int .i64 0, .bool false] 33 (0, 0)) := blk_below (by rw [Below.heap_alloc _ _ _ (by rw [World.size_alloc]; omega)]; exact heap_alloc_new w _) hb (by rw [World.size_alloc, World.size_alloc]; omega)
  have zb1 : w2.heap[w.heap.size + 1]? = some (.cells #[.string ⟨#[]⟩, .int .i64 0, .int .i64 0, .bool false] 33 (0, 0)) := blk_below (by have h := heap_alloc_new (w.alloc (.cells #[.string ⟨#[]⟩, .int .i64 0, .int .i64 0, .bool false] 33)) (.cells #[.string ⟨#[]⟩, .int .i64 0, .int .i64 0, .bool false] 33); rw [World.size_alloc] at h; exact h) hb (by rw [World.size_alloc, World.size_alloc]; omega)
  have hlo : ∀ b ∈ G2, w.heap.size + 2 ≤ b := fun b hb2 => by have := hf.from_ b hb2; rw [World.size_alloc, World.size_alloc] at this; omega
  have hB2 : Below w.heap.size w w2 := hB0.trans (hb.mono (by rw [World.size_alloc, World.size_alloc]; omega))
  obtain ⟨A, cap, rfl, hlc, hm⟩ := hsl.form
  have hln : (splitS s 58).length = (splitL s.data.toList 58).length := by unfold splitS; simp
  clear hf hb hB0 hlc hm
  by_cases h3 : (splitL s.data.toList 58).length = 3
  case neg =>
    have Ha := hide (attS_odd h3)
    have hn3 : (((splitS s 58).length : Int) == 3) = false := by rw [beq_eq_false_iff_ne, hln]; omega
    have hn4 : ¬ ((splitS s 58).length : Int) = 3 := by rw [hln]; omega
    have hc1 : Hid (CellsAt w2 (w.heap.size + 1) 0 [.string ⟨#[]⟩, .int .i64 0, .int .i64 0, .bool false]) := hide fun j u hu => by
      rw [cell_of_row _ _ _ _ _ _ zb1, Nat.zero_add]
      simpa using hu
    clear hln hsl zb1 h3
    generalize (splitS s 58).length = n at hn3 hn4 ⊢
    go_wp2_with (first
      | refine wpList_load_at 33 (.tmp 3) rfl Tryd.underlying33 rfl Hi.out rfl rfl (by rfl) hc1.out ?_
      | (refine wpList_store_at 33 (.tmp 2) (.tmp 12) (cs := [.string ⟨#[]⟩, .int .i64 0, .int .i64 0, .bool false]) rfl Hi.out rfl rfl rfl rfl (by simp [Value.oneCell']) zb0 (by decide) ?_; intro WF hP; have HP := hide hP; clear hP))
    have hc := HP.out.cellsAt
    have x0 := hc 0 _ rfl
    have x1 := hc 1 _ rfl
    have x2 := hc 2 _ rfl
    have x3 := hc 3 _ rfl
    simp only [Nat.zero_add] at x0 x1 x2 x3
    exact bodyPost_ret (v := .agg #[.string ⟨#[]⟩, .int .i64 0, .int .i64 0, .bool false]) (by simp [results, Tryd.results31, go_sem, x0, x1, x2, x3]) rfl ⟨by rw [Ha.out]; rfl, hB2.trans (HP.out.below (Nat.le_refl _))⟩
  case pos =>
    obtain ⟨p0, p1, p2, e⟩ : ∃ p0 p1 p2, splitL s.data.toList 58 = [p0, p1, p2] := by
      match h : splitL s.data.toList 58, h3 with
      | [p0, p1, p2], _ => exact ⟨p0, p1, p2, rfl⟩
    have Ha : Hid (attS s.data.toList = attP p0 p1 p2) := hide (by unfold attS; rw [e])
    have es : splitS s 58 = [toB p0, toB p1, toB p2] := by unfold splitS; rw [e]; rfl
    have hp2l : p2.length ≤ 1048576 := by
      have h1 := splitL_mem 58 s.data.toList p2 (by rw [e]; simp)
      have h2 : s.data.toList.length = s.size := by rw [Array.length_toList]; rfl
      omega
    rw [es] at hsl ⊢
    obtain ⟨b, off, cs0, Fk0, hA, _, hbF, _, _, _, _⟩ := SlR.get (StrR.good 0) hsl (k := 0) rfl
    subst hA
    obtain ⟨b', off', e', hbz, hcw⟩ := hsl.strs.1.2 (by simp)
    injection e' with e'
    injection e' with e1 e2
    subst e1 e2
    have hbn : w.heap.size + 2 ≤ b := hlo b hbF
    have k0 := hcw 0 _ rfl
    have k1 := hcw 1 _ rfl
    have k2 := hcw 2 _ rfl
    rw [Nat.add_zero] at k0
    have q0 := cell_at (i := 0) zb1 (by simp)
    simp only [Array.getD_eq_getD_getElem?, List.getElem?_toArray, List.getElem?_cons_succ, List.getElem?_cons_zero, Option.getD_some] at q0
    have z0 := frozen_of_row w2 _ 0 _ _ zb1
    clear hln e es h3 hlo hbF hcw
    go_wp2_with fail
    have zV1 := heap_setCell_same w2 (w.heap.size + 1) 0 _ _ (.string (toB p0)) zb1
    have zV0 : (w2.setCell ⟨w.heap.size + 1, 0, none⟩ (.string (toB p0))).heap[w.heap.size]? = _ := (heap_setCell_other _ _ _ _ (by simp)).trans zb0
    have j1 : (w2.setCell ⟨w.heap.size + 1, 0, none⟩ (.string (toB p0))).cell? ⟨b, off + 1, none⟩ = some (.string (toB p1)) := (World.cell?_setCell_other _ ⟨w.heap.size + 1, 0, none⟩ ⟨b, off + 1, none⟩ _ (by simp)).trans k1
    have j2 : (w2.setCell ⟨w.heap.size + 1, 0, none⟩ (.string (toB p0))).cell? ⟨b, off + 2, none⟩ = some (.string (toB p2)) := (World.cell?_setCell_other _ ⟨w.heap.size + 1, 0, none⟩ ⟨b, off + 2, none⟩ _ (by simp)).trans k2
    have hBV : Below w.heap.size w (w2.setCell ⟨w.heap.size + 1, 0, none⟩ (.string (toB p0))) := Below.setCell (p := ⟨w.heap.size + 1, 0, none⟩) hB2 (Nat.le_succ _) _
    have hbV : b < (w2.setCell ⟨w.heap.size + 1, 0, none⟩ (.string (toB p0))).heap.size := by simpa using hbz
    generalize w2.setCell ⟨w.heap.size + 1, 0, none⟩ (.string (toB p0)) = V at zV1 zV0 j1 j2 hBV hbV ⊢
    have hVs : w.heap.size + 1 < V.heap.size := blk_lt zV1
    have m1 : ∀ W : World, Below V.heap.size V W → W.cell? ⟨b, off + 1, none⟩ = some (.string (toB p1)) := fun W h => (h.cell (p := ⟨b, off + 1, none⟩) hbV).trans j1
    have hVV : Below V.heap.size V V := Below.refl _ _
    have HBV := hide hBV
    have HV : Hid (∀ W : World, Below V.heap.size V W → Below w.heap.size w W) := hide fun W h => HBV.out.trans (h.mono (by omega))
    clear zb0 zb1 k0 k1 k2 q0 z0 hB2 hsl hbz hBV
    go_region_held3 (fun W => Below w.heap.size w W ∧ W.cell? ⟨b, off + 1, none⟩ = some (.string (toB p1)))
      (first
        | assumption
        | exact ⟨Below.setCell (HV.out _ (by (repeat (first | assumption | apply Below.drew)))) (Nat.le_succ _) _, (World.cell?_setCell_other _ ⟨w.heap.size + 1, 2, none⟩ ⟨b, off + 1, none⟩ _ (by simp)).trans (m1 _ (by (repeat (first | assumption | apply Below.drew))))⟩
        | exact ⟨HV.out _ (by (repeat (first | assumption | apply Below.drew))), m1 _ (by (repeat (first | assumption | apply Below.drew)))⟩)
      (first
        | (go_at_call 20; refine Calls.mono (s_l8Modes _) ?_; rintro en w3 ⟨bm, rfl, hbm, hbm2, hcm, hb⟩; have hV3 : Below V.heap.size V w3 := below_step (by (repeat (first | assumption | apply Below.drew))) (Nat.le_refl _) hb; have hrd := rd_modes (w' := w3) hcm hbm2; have zb3 : w3.heap[w.heap.size + 1]? = _ := (hV3.block _ hVs).trans zV1; have q2 := cell_at (i := 2) zb3 (by simp); have z2 := frozen_of_row w3 _ 2 _ _ zb3; simp only [Array.getD_eq_getD_getElem?, List.getElem?_toArray, List.getElem?_cons_succ, List.getElem?_cons_zero, Option.getD_some, Array.setIfInBounds, List.size_toArray, List.length_cons, List.length_nil, Array.set, List.set_cons_zero, List.set_cons_succ] at q2; clear hbm hbm2 hcm hb)
        | (go_at_call 46; refine Calls.mono (s_IndexOf _ 4 _ (toB p1) modesS _ _ (hrd.keep fun _ _ => rfl) (by decide)) ?_; rintro en w4 ⟨rfl, rfl⟩))
    -- behind the region
    all_goals
      have z6 := heap_setCell_same w3 (w.heap.size + 1) 2 _ _ (.int .i64 (idxS modesS (toB p1))) zb3
      have z60 : (w3.setCell ⟨w.heap.size + 1, 2, none⟩ (.int .i64 (idxS modesS (toB p1)))).heap[w.heap.size]? = _ := (heap_setCell_other _ _ _ _ (by simp)).trans ((hV3.block _ (by omega)).trans zV0)
      have j6 : (w3.setCell ⟨w.heap.size + 1, 2, none⟩ (.int .i64 (idxS modesS (toB p1)))).cell? ⟨b, off + 2, none⟩ = some (.string (toB p2)) := (World.cell?_setCell_other _ ⟨w.heap.size + 1, 2, none⟩ ⟨b, off + 2, none⟩ _ (by simp)).trans ((hV3.cell (p := ⟨b, off + 2, none⟩) hbV).trans j2)
      have hBA : Below w.heap.size w (w3.setCell ⟨w.heap.size + 1, 2, none⟩ (.int .i64 (idxS modesS (toB p1)))) := Below.setCell (p := ⟨w.heap.size + 1, 2, none⟩) (HV.out _ hV3) (Nat.le_succ _) _
      generalize w3.setCell ⟨w.heap.size + 1, 2, none⟩ (.int .i64 (idxS modesS (toB p1))) = VA at z6 z60 j6 hBA ⊢
      clear hV3 hrd zb3 q2 z2 hVV m1 zV1 zV0 j1 j2 HBV HV hVs hbV
      have zA : Hid (VA.heap[w.heap.size + 1]? = some (.cells #[.string (toB p0), .int .i64 0, .int .i64 (idxS modesS (toB p1)), .bool false] 33 (0, 0))) := hide z6
      have zB := hide z60
      clear z6 z60
      have hsz2 : (toB p2).size = p2.length := by simp [toB, ByteArray.size]
      have hp2 : p2 = [] ∨ ∃ r x, p2 = r ++ [x] := by
        rcases List.eq_nil_or_concat p2 with h | ⟨r, x, h⟩
        · exact .inl h
        · exact .inr ⟨r, x, by rw [h, List.concat_eq_append]⟩
      rcases hp2 with rfl | ⟨r, x, rfl⟩
      · have Hp : Hid (attP p0 p1 [] = ⟨toB p0, idxS typesS (toB []), idxS modesS (toB p1), false⟩) := hide rfl
        have hs0 : (toB []).size = 0 := rfl
        go_wp2_with (first
          | (go_at_call 21; refine Calls.mono (s_l8Types _) ?_; rintro en w8 ⟨bt, rfl, hbt, hbt2, hct, hb⟩; have hrt := rd_types (w' := w8) hct hbt2; have zb8 : w8.heap[w.heap.size + 1]? = _ := (hb.block _ (blk_lt zA.out)).trans zA.out; have zb9 : w8.heap[w.heap.size]? = _ := (hb.block _ (blk_lt zB.out)).trans zB.out; have q9 := cell_at (i := 1) zb8 (by simp); have z9 := frozen_of_row w8 _ 1 _ _ zb8; have hB8 : Below w.heap.size w w8 := hBA.trans (hb.mono (by have := blk_lt zB.out; omega)); have hc8 := tok_cells zb8 (idxS typesS (toB [])); have hz8 := (heap_setCell_other w8 ⟨w.heap.size + 1, 1, none⟩ w.heap.size (.int .i64 (idxS typesS (toB []))) (by simp)).trans zb9; have hB9 : Below w.heap.size w (w8.setCell ⟨w.heap.size + 1, 1, none⟩ (.int .i64 (idxS typesS (toB [])))) := Below.setCell (p := ⟨w.heap.size + 1, 1, none⟩) hB8 (Nat.le_succ _) _; have Hc8 := hide hc8; have Hz8 := hide hz8; have HB9 := hide hB9; clear hbt hbt2 hct hb hc8 hz8 hB9 hB8 zb9)
          | (go_at_call 46; refine Calls.mono (s_IndexOf _ 5 _ (toB []) typesS _ _ (hrt.keep fun _ _ => rfl) (by decide)) ?_; rintro en w9 ⟨rfl, rfl⟩)
          | refine wpList_load_at 33 (.tmp 3) rfl Tryd.underlying33 rfl Hi.out rfl rfl (by rfl) Hc8.out ?_
          | (refine wpList_store_at 33 (.tmp 2) (.tmp 47) (cs := [.string (toB p0), .int .i64 (idxS typesS (toB [])), .int .i64 (idxS modesS (toB p1)), .bool false]) rfl Hi.out rfl rfl rfl rfl (by simp [Value.oneCell']) Hz8.out (by decide) ?_; intro WF hP; have HP := hide hP; clear hP))
        have hc := HP.out.cellsAt
        have x0 := hc 0 _ rfl
        have x1 := hc 1 _ rfl
        have x2 := hc 2 _ rfl
        have x3 := hc 3 _ rfl
        simp only [Nat.zero_add] at x0 x1 x2 x3
        exact bodyPost_ret (v := .agg #[.string (toB p0), .int .i64 (idxS typesS (toB [])), .int .i64 (idxS modesS (toB p1)), .bool false]) (by simp [results, Tryd.results31, go_sem, x0, x1, x2, x3]) rfl ⟨by rw [Ha.out, Hp.out], HB9.out.trans (HP.out.below (Nat.le_refl _))⟩
      · have hsz : (toB (r ++ [x])).size = r.length + 1 := by rw [hsz2]; simp
        have hgx : ∀ h : r.length < (toB (r ++ [x])).size, (toB (r ++ [x]))[r.length] = x := fun h => by
          have h2 := bytes_at h
          rw [toB_data'] at h2
          simpa using h2.symm
        have hr0 : (0 : Int) ≤ (r.length : Int) := by omega
        have hr1 : (r.length : Int) ≤ 1048576 := by rw [List.length_append] at hp2l; simp at hp2l; omega
        clear hp2l
        have hlast : (r ++ [x]).getLast? = some x := by simp
        clear hsz2
        by_cases hx : x = 33
        · have Hp : Hid (attP p0 p1 (r ++ [x]) = ⟨toB p0, idxS typesS (toB r), idxS modesS (toB p1), true⟩) := hide (by unfold attP; rw [if_pos (by rw [hlast, hx]), List.dropLast_concat])
          have hex : (toB (r ++ [x])).extract 0 r.length = toB r := by unfold toB; apply ByteArray.ext; simp [ByteArray.data_extract]
          generalize toB (r ++ [x]) = T at hsz hgx hex Hp j6 ⊢
          have hx3 : ∀ h : r.length < T.size, (T[r.length].toNat : Int) = 33 := fun h => by rw [hgx h, hx]; rfl
          have q3 := cell_at (i := 3) zA.out (by simp)
          have z3 := frozen_of_row VA _ 3 _ _ zA.out
          have zA2 := heap_setCell_same VA (w.heap.size + 1) 3 _ _ (.bool true) zA.out
          have zB2 : (VA.setCell ⟨w.heap.size + 1, 3, none⟩ (.bool true)).heap[w.heap.size]? = _ := (heap_setCell_other _ _ _ _ (by simp)).trans zB.out
          have hBA2 : Below w.heap.size w (VA.setCell ⟨w.heap.size + 1, 3, none⟩ (.bool true)) := Below.setCell (p := ⟨w.heap.size + 1, 3, none⟩) hBA (Nat.le_succ _) _
          have HA := hide zA2
          have HB := hide zB2
          have HBA := hide hBA2
          clear zA zB hBA zA2 zB2 hBA2
          have zA : Hid ((VA.setCell ⟨w.heap.size + 1, 3, none⟩ (.bool true)).heap[w.heap.size + 1]? = some (.cells #[.string (toB p0), .int .i64 0, .int .i64 (idxS modesS (toB p1)), .bool true] 33 (0, 0))) := HA
          have zB := HB
          have hBA := HBA.out
          clear HA HB HBA
          have hrT : r.length < T.size := by omega
          have hx4 := hx3 hrT
          clear hx3 hgx hlast hx
          have q0 : ((r.length : Int) + 1 > 0) := by omega
          go_wp2_with (first
            | (go_at_call 21; refine Calls.mono (s_l8Types _) ?_; rintro en w8 ⟨bt, rfl, hbt, hbt2, hct, hb⟩; have hrt := rd_types (w' := w8) hct hbt2; have zb8 : w8.heap[w.heap.size + 1]? = _ := (hb.block _ (blk_lt zA.out)).trans zA.out; have zb9 : w8.heap[w.heap.size]? = _ := (hb.block _ (blk_lt zB.out)).trans zB.out; have q9 := cell_at (i := 1) zb8 (by simp); have z9 := frozen_of_row w8 _ 1 _ _ zb8; have hB8 : Below w.heap.size w w8 := hBA.trans (hb.mono (by have := blk_lt zB.out; omega)); have hc8 := tok_cells zb8 (idxS typesS (toB r)); have hz8 := (heap_setCell_other w8 ⟨w.heap.size + 1, 1, none⟩ w.heap.size (.int .i64 (idxS typesS (toB r))) (by simp)).trans zb9; have hB9 : Below w.heap.size w (w8.setCell ⟨w.heap.size + 1, 1, none⟩ (.int .i64 (idxS typesS (toB r)))) := Below.setCell (p := ⟨w.heap.size + 1, 1, none⟩) hB8 (Nat.le_succ _) _; have Hc8 := hide hc8; have Hz8 := hide hz8; have HB9 := hide hB9; clear hbt hbt2 hct hb hc8 hz8 hB9 hB8 zb9)
            | (go_at_call 46; refine Calls.mono (s_IndexOf _ 5 _ (toB r) typesS _ _ (hrt.keep fun _ _ => rfl) (by decide)) ?_; rintro en w9 ⟨rfl, rfl⟩)
            | refine wpList_load_at 33 (.tmp 3) rfl Tryd.underlying33 rfl Hi.out rfl rfl (by rfl) Hc8.out ?_
            | (refine wpList_store_at 33 (.tmp 2) (.tmp 47) (cs := [.string (toB p0), .int .i64 (idxS typesS (toB r)), .int .i64 (idxS modesS (toB p1)), .bool true]) rfl Hi.out rfl rfl rfl rfl (by simp [Value.oneCell']) Hz8.out (by decide) ?_; intro WF hP; have HP := hide hP; clear hP))
          have hc := HP.out.cellsAt
          have x0 := hc 0 _ rfl
          have x1 := hc 1 _ rfl
          have x2 := hc 2 _ rfl
          have x3 := hc 3 _ rfl
          simp only [Nat.zero_add] at x0 x1 x2 x3
          exact bodyPost_ret (v := .agg #[.string (toB p0), .int .i64 (idxS typesS (toB r)), .int .i64 (idxS modesS (toB p1)), .bool true]) (by simp [results, Tryd.results31, go_sem, x0, x1, x2, x3]) rfl ⟨by rw [Ha.out, Hp.out], HB9.out.trans (HP.out.below (Nat.le_refl _))⟩
        · have Hp : Hid (attP p0 p1 (r ++ [x]) = ⟨toB p0, idxS typesS (toB (r ++ [x])), idxS modesS (toB p1), false⟩) := hide (by unfold attP; rw [if_neg (by rw [hlast]; simpa using hx)])
          generalize toB (r ++ [x]) = T at hsz hgx Hp j6 ⊢
          have hrT : r.length < T.size := by omega
          have hx4 : ¬ (T[r.length].toNat : Int) = 33 := by
            rw [hgx hrT]
            intro h
            apply hx
            apply UInt8.toNat_inj.1
            show x.toNat = 33
            omega
          clear hgx hlast hx
          have q0 : ((r.length : Int) + 1 > 0) := by omega
          go_wp2_with (first
            | (go_at_call 21; refine Calls.mono (s_l8Types _) ?_; rintro en w8 ⟨bt, rfl, hbt, hbt2, hct, hb⟩; have hrt := rd_types (w' := w8) hct hbt2; have zb8 : w8.heap[w.heap.size + 1]? = _ := (hb.block _ (blk_lt zA.out)).trans zA.out; have zb9 : w8.heap[w.heap.size]? = _ := (hb.block _ (blk_lt zB.out)).trans zB.out; have q9 := cell_at (i := 1) zb8 (by simp); have z9 := frozen_of_row w8 _ 1 _ _ zb8; have hB8 : Below w.heap.size w w8 := hBA.trans (hb.mono (by have := blk_lt zB.out; omega)); have hc8 := tok_cells zb8 (idxS typesS T); have hz8 := (heap_setCell_other w8 ⟨w.heap.size + 1, 1, none⟩ w.heap.size (.int .i64 (idxS typesS T)) (by simp)).trans zb9; have hB9 : Below w.heap.size w (w8.setCell ⟨w.heap.size + 1, 1, none⟩ (.int .i64 (idxS typesS T))) := Below.setCell (p := ⟨w.heap.size + 1, 1, none⟩) hB8 (Nat.le_succ _) _; have Hc8 := hide hc8; have Hz8 := hide hz8; have HB9 := hide hB9; clear hbt hbt2 hct hb hc8 hz8 hB9 hB8 zb9)
            | (go_at_call 46; refine Calls.mono (s_IndexOf _ 5 _ T typesS _ _ (hrt.keep fun _ _ => rfl) (by decide)) ?_; rintro en w9 ⟨rfl, rfl⟩)
            | refine wpList_load_at 33 (.tmp 3) rfl Tryd.underlying33 rfl Hi.out rfl rfl (by rfl) Hc8.out ?_
            | (refine wpList_store_at 33 (.tmp 2) (.tmp 47) (cs := [.string (toB p0), .int .i64 (idxS typesS T), .int .i64 (idxS modesS (toB p1)), .bool false]) rfl Hi.out rfl rfl rfl rfl (by simp [Value.oneCell']) Hz8.out (by decide) ?_; intro WF hP; have HP := hide hP; clear hP))
          have hc := HP.out.cellsAt
          have x0 := hc 0 _ rfl
          have x1 := hc 1 _ rfl
          have x2 := hc 2 _ rfl
          have x3 := hc 3 _ rfl
          simp only [Nat.zero_add] at x0 x1 x2 x3
          exact bodyPost_ret (v := .agg #[.string (toB p0), .int .i64 (idxS typesS T), .int .i64 (idxS modesS (toB p1)), .bool false]) (by simp [results, Tryd.results31, go_sem, x0, x1, x2, x3]) rfl ⟨by rw [Ha.out, Hp.out], HB9.out.trans (HP.out.below (Nat.le_refl _))⟩
end Go.Proofs.YtilndebjnibgjaaDoor
