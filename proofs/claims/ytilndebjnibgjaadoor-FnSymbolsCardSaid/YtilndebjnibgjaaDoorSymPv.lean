/- Symbols read from a line: the program's walk. Conditions: the line has at most 2^20 bytes; the words of modes and types are laid; the world has the form that every start has. -/
import Derived.Test.YtilndebjnibgjaaDoorSymPu
import Derived.Deep.RegionHeld3
import Derived.Sort.AtCall
import Derived.Deep.RegionLaw
namespace Go.Proofs.YtilndebjnibgjaaDoor
set_option maxRecDepth 100000
open Go.RowKit Go.WideShapes Go.Lib
set_option linter.unusedVariables false

theorem row_at {w : World} {base g n c : Nat} {xs : List ByteArray} (h : w.ownsRow base 9 1 (.slice (some ⟨g, 0, none⟩) n c) n (xs.map Value.string)) (j : Nat) (x : ByteArray) (hx : xs[j]? = some x) : w.cell? ⟨g, j, none⟩ = some (.string x) := by
  have h1 := h.cells (g := g) rfl j (.string x) (by rw [List.getElem?_map, hx]; rfl)
  unfold Addr.add at h1
  split at h1
  · rename_i h0; subst h0; exact h1
  · rwa [show (0 : Nat) + j = j by omega] at h1
theorem words_cells {W : World} {g : Nat} {zs : List ByteArray} (h : WordsIs W g zs) : ∀ j, j < zs.length → W.cell? ⟨g, 0 + j, none⟩ = some (.string (zs.getD j ByteArray.empty)) := fun j hj => by
  rw [Nat.zero_add]
  exact h j _ (by rw [List.getD_eq_getElem?_getD, List.getElem?_eq_getElem hj]; rfl)
set_option maxRecDepth 100000 in
set_option maxHeartbeats 4000000 in
theorem i_ParseSymbol (D : Nat) (s : ByteArray) (hs : s.size ≤ 1048576) (w : World) (hsh : w.ShapedOpen Tryd.prog) (hM : WordsIs w 0 modeWs) (hT : WordsIs w 1 typeWs) :
    Calls Tryd.prog 7 #[.string s] w fun en w' => ∃ us F', en = .returned (.tuple #[.agg (List.toArray us), .bool (parseY s).2]) ∧ SymR D w' (parseY s).1 us F' ∧ Fresh w.heap.size w' F' ∧ Below w.heap.size w w' := by
  have Hi : Hid ((Tryd.prog.info? 26).map (·.size) = some 2) := hide (by kernel_rfl)
  have Hia : Hid ((Tryd.prog.info? 33).map (·.size) = some 4) := hide (by kernel_rfl)
  have HSh : Hid (∀ W : World, Below w.heap.size w W → W.ShapedOpen Tryd.prog) := hide fun W h => shaped_below2 hsh h
  have hgM := hM.lt (by decide)
  have hgT := hT.lt (by decide)
  have HM : Hid (∀ W : World, Below w.heap.size w W → WordsIs W 0 modeWs) := hide fun W h => hM.below hgM h
  have HT : Hid (∀ W : World, Below w.heap.size w W → WordsIs W 1 typeWs) := hide fun W h => hT.below hgT h
  clear hsh hM hT
  go_enter Tryd.func7, Tryd.ntmps7
  go_wp2_with fail
  have hB0 : Below w.heap.size w (w.alloc (.cells #[.string ⟨#[]⟩, .slice none 0 0] 26)) := (Below.refl _ _).alloc (Nat.le_refl _) _
  refine Calls.mono (Tryd.strings_SplitN_shaped s ⟨#[32]⟩ 7 _ (HSh.out _ hB0) (by omega) (by decide) (by decide) (by decide)) ?_
  rintro en w2 ⟨rfl, hw2⟩
  have hwd : splitB ⟨#[32]⟩ 0 (min 7 (s.size + 1) - 1) s = wordsI s := rfl
  rw [hwd] at hw2 ⊢
  have hl7 : (wordsI s).length ≤ min 7 (s.size + 1) := by have := splitB_length_le ⟨#[32]⟩ 0 (min 7 (s.size + 1) - 1) s; rw [hwd] at this; omega
  have hcw : ∀ j x, (wordsI s)[j]? = some x → w2.cell? ⟨w.heap.size + 1, j, none⟩ = some (.string x) := fun j x hx => by
    have h := splitN_cell (w.alloc (.cells #[.string ⟨#[]⟩, .slice none 0 0] 26)) (wordsI s) (min 7 (s.size + 1)) j x hx
    rw [World.size_alloc] at h
    rw [hw2]
    exact h
  have zb0 : w2.heap[w.heap.size]? = some (.cells #[.string ⟨#[]⟩, .slice none 0 0] 26 (0, 0)) := by
    rw [hw2, Below.heap_alloc _ _ _ (by rw [World.size_alloc]; omega)]
    exact heap_alloc_new w _
  have hB2 : Below w.heap.size w w2 := by rw [hw2]; exact hB0.alloc (by rw [World.size_alloc]; exact Nat.le_succ _) _
  have hsz2 : w2.heap.size = w.heap.size + 2 := by rw [hw2, World.size_alloc, World.size_alloc]
  have Hcw := hide hcw
  have hl8 : (wordsI s).length ≤ 7 := by omega
  have Hzb0 := hide zb0
  have HB2 := hide hB2
  have hbz : w.heap.size + 1 < w2.heap.size := by omega
  have hnr : (w.alloc (.cells #[.string ⟨#[]⟩, .slice none 0 0] 26)).heap.size = w.heap.size + 1 := World.size_alloc _ _
  rw [hnr]
  generalize min 7 (s.size + 1) = cap at hw2 hl7 ⊢
  clear hw2 hB0 zb0 hB2 hcw hwd hsz2 hnr
  by_cases h2 : 2 ≤ (wordsI s).length
  case neg =>
    have Hp := hide (parseQ_few h2)
    have hl2 : ((wordsI s).length : Int) < 2 := by omega
    clear h2
    generalize (wordsI s).length = n at hl2 hl8 ⊢
    go_wp2_with (refine wpList_store_at 26 (.tmp 2) (.tmp 17) (cs := [.string ⟨#[]⟩, .slice none 0 0]) rfl Hi.out rfl rfl rfl rfl (by simp [Value.oneCell']) Hzb0.out (by decide) ?_; intro WF hP; have HP := hide hP; clear hP)
    obtain ⟨x0, x1⟩ := HP.out.cellsAt.two0
    exact bodyPost_ret (v := .tuple #[.agg #[.string ⟨#[]⟩, .slice none 0 0], .bool false]) (by simp [results, Tryd.results7, go_sem, x0, x1]) rfl ⟨[.string ⟨#[]⟩, .slice none 0 0], [], by rw [Hp.out], by rw [Hp.out]; exact zeroY_R D WF, Fresh.nil _ _, HB2.out.trans (HP.out.below (Nat.le_refl _))⟩
  case pos =>
    have hl2 : ¬ ((wordsI s).length : Int) < 2 := by omega
    have hw1 : (wordsI s)[1]? = some ((wordsI s).getD 1 ⟨#[]⟩) := by rw [List.getD_eq_getElem?_getD, List.getElem?_eq_getElem (by omega)]; rfl
    have k1 := Hcw.out 1 _ hw1
    have Hwm : Hid (∀ p ∈ wordsI s, p.size ≤ 1048576) := hide fun p hp => Nat.le_trans (splitB_size 32 _ s p hp) hs
    have Hnm : Hid ((symI s).name = (wordsI s).getD 1 ⟨#[]⟩) := hide rfl
    have Hn1 : Hid (((wordsI s).getD 1 ⟨#[]⟩).size ≤ maxLen) := hide (by have := Hwm.out _ (List.mem_of_getElem? hw1); unfold maxLen; omega)
    have Hw2 := hide h2
    have Hats : Hid ((symI s).attrs = ((wordsI s).drop 2).map attI) := hide rfl
    clear hw1
    generalize (wordsI s).getD 1 ⟨#[]⟩ = nm at k1 Hnm Hn1 ⊢
    obtain ⟨L, hL⟩ : ∃ L, L = (wordsI s).length := ⟨_, rfl⟩
    have HL := hide hL
    rw [← hL] at hl2 hl8 hl7 ⊢
    clear hL h2
    by_cases hc2 : cap = 2
    all_goals
      go_wp2_with fail
      have Hc2 := hide hc2
      clear hc2
      have zb5 := heap_alloc_new w2 (.cells #[.string nm, .slice none 0 0] 26)
      have hz5 := World.size_alloc w2 (Obj.cells #[.string nm, .slice none 0 0] 26)
      have hV : Below w2.heap.size w2 (w2.alloc (.cells #[.string nm, .slice none 0 0] 26)) := (Below.refl _ _).alloc (Nat.le_refl _) _
      generalize w2.alloc (.cells #[.string nm, .slice none 0 0] 26) = V at zb5 hz5 hV ⊢
      have Hzb5 := hide zb5
      have HV := hide hV
      have hVsz : w2.heap.size + 1 ≤ V.heap.size := by omega
      clear zb5 hz5 hV k1
      go_loopw [25] (fun i wr => ∃ (j : Nat) (v : Value) (F' : List Nat), j ≤ L - 2 ∧ i = .int .i64 j ∧ Hid (wr.heap[w2.heap.size]? = some (.cells #[.string nm, v] 26 (0, 0))) ∧ Hid (OwnS 4 (AtrR D) (w2.heap.size + 1) 33 wr (((wordsI s).take (j + 2)).drop 2 |>.map attI) v F') ∧ Hid (Below w2.heap.size V wr) ∧ V.heap.size ≤ wr.heap.size) (fun i _ => L - 2 - (RowKit.intOf i).toNat)
      case atStart => exact ⟨0, .slice none 0 0, [], by omega, rfl, Hzb5, hide (by rw [show ((wordsI s).take (0 + 2)).drop 2 = [] from List.drop_eq_nil_of_le (List.length_take_le _ _)]; exact OwnS.nil V), hide (Below.refl _ _), Nat.le_refl _⟩
      case round =>
        obtain ⟨j, v, F', hjL, rfl, Hbx, Ho, Hb, hzr⟩ := hrel
        obtain ⟨wo, hwo⟩ : ∃ W, W = wr := ⟨_, rfl⟩
        subst hwo
        have hBr := Hb.out
        obtain ⟨A, capv, rfl, hlc, hm⟩ := Ho.out.form
        clear hlc hm
        have hwlt : w2.heap.size < wo.heap.size := by omega
        by_cases hlt : j < L - 2
        · first | (exfalso; exact absurd Hc2.out (by omega)) | skip
          all_goals
            have hjw : j + 2 < (wordsI s).length := by rw [← HL.out]; omega
            have hp : (wordsI s)[j + 2]? = some (wordsI s)[j + 2] := List.getElem?_eq_getElem (by rw [← HL.out]; omega)
            generalize (wordsI s)[j + 2] = p at hp
            have hpz := Hwm.out p (List.mem_of_getElem? hp)
            have Hnx : Hid ((((wordsI s).take (j + 2 + 1)).drop 2).map attI = (((wordsI s).take (j + 2)).drop 2).map attI ++ [attI p]) := hide (by
              rw [take_snoc hp, List.drop_append_of_le_length (by rw [List.length_take, ← HL.out]; omega), List.map_append]
              rfl)
            have Hok := hide (attI_ok hpz)
            have hlen : ((((wordsI s).take (j + 2)).drop 2).map attI).length = j := by rw [List.length_map, List.length_drop, List.length_take, ← HL.out]; omega
            have Hlen := hide hlen
            have kj : wo.cell? ⟨w.heap.size + 1, 2 + j, none⟩ = some (.string p) := by
              have h1 := Hcw.out (j + 2) p hp
              rw [show j + 2 = 2 + j by omega] at h1
              exact (hBr.cell (p := ⟨w.heap.size + 1, 2 + j, none⟩) hbz).trans ((HV.out.cell (p := ⟨w.heap.size + 1, 2 + j, none⟩) hbz).trans h1)
            have hwV : Below w.heap.size w wo := HB2.out.trans ((HV.out.trans (hBr.mono (Nat.le_refl _))).mono (by omega))
            have HwV := hide hwV
            have Hps := hide (prtI_len p)
            have Hpz : Hid (∀ x ∈ prtI p, x.size ≤ 1048576) := hide fun x hx => by
              unfold prtI at hx
              rcases List.mem_append.1 hx with hx | hx
              · exact Nat.le_trans (splitB_size 58 _ p x hx) hpz
              · simp only [List.mem_cons, List.not_mem_nil, or_false] at hx
                rcases hx with rfl | rfl <;> decide
            have Hat : Hid (attI p = attQ ((prtI p).getD 0 ⟨#[]⟩) ((prtI p).getD 1 ⟨#[]⟩) ((prtI p).getD 2 ⟨#[]⟩)) := hide rfl
            generalize ((((wordsI s).take (j + 2)).drop 2).map attI) = xs at *
            clear hp hlen hwV hjw
            have hj0 : (0 : Int) ≤ (j : Int) := by omega
            have hj1 : (j : Int) < ((L - 2 : Nat) : Int) := by omega
            have hxl : xs.length ≤ 1048576 := by have := Hlen.out; omega
            go_wp2_with fail
            refine Calls.mono (Tryd.strings_SplitN_shaped p ⟨#[58]⟩ 3 _ (HSh.out _ HwV.out) (by omega) (by decide) (by decide) (by decide)) ?_
            rintro en w5 ⟨rfl, hw5⟩
            have hl3 : (splitB ⟨#[58]⟩ 0 (min 3 (p.size + 1) - 1) p).length ≤ min 3 (p.size + 1) := by have := splitB_length_le ⟨#[58]⟩ 0 (min 3 (p.size + 1) - 1) p; omega
            have hrow5 := splitN_row wo (splitB ⟨#[58]⟩ 0 (min 3 (p.size + 1) - 1) p) (min 3 (p.size + 1)) hl3 (by omega)
            rw [← hw5] at hrow5
            have hB5 : Below wo.heap.size wo w5 := by rw [hw5]; exact (Below.refl _ _).alloc (Nat.le_refl _) _
            have hps : prtI p = splitB ⟨#[58]⟩ 0 (min 3 (p.size + 1) - 1) p ++ [⟨#[]⟩, ⟨#[]⟩] := rfl
            have hpl := Hps.out
            rw [hps, List.length_append] at hpl
            simp only [List.length_cons, List.length_nil] at hpl
            generalize hsp : splitB ⟨#[58]⟩ 0 (min 3 (p.size + 1) - 1) p = ps at hl3 hrow5 hps hpl
            generalize min 3 (p.size + 1) = cap3 at hw5 hl3 hrow5
            have Hps2 := hide hps
            have Hrow5 := hide hrow5
            have HB5 := hide hB5
            have hz5 := hB5.size
            clear hw5 hsp hps hrow5 hB5
            have hg3 : 3 ≤ (prtI p).length := Hps.out.1
            obtain ⟨p0, hp0⟩ : ∃ q, (prtI p)[0]? = some q := ⟨_, List.getElem?_eq_getElem (by omega)⟩
            obtain ⟨p1, hp1⟩ : ∃ q, (prtI p)[1]? = some q := ⟨_, List.getElem?_eq_getElem (by omega)⟩
            obtain ⟨p2, hp2⟩ : ∃ q, (prtI p)[2]? = some q := ⟨_, List.getElem?_eq_getElem (by omega)⟩
            have hz2 := Hpz.out p2 (List.mem_of_getElem? hp2)
            have hat : attI p = attQ p0 p1 p2 := by
              rw [Hat.out, List.getD_eq_getElem?_getD, List.getD_eq_getElem?_getD, List.getD_eq_getElem?_getD, hp0, hp1, hp2]
              rfl
            have Hp0 := hide hp0
            have Hp1 := hide hp1
            have Hp2 := hide hp2
            clear hp0 hp1 hp2 hg3
            obtain ⟨kd, cb, hkc, HC⟩ : ∃ (kd : ByteArray) (cb : Bool), (kd = ⟨(trimSuffix p2.data.toList [33]).toArray⟩ ∧ cb = hasSuffix p2.data.toList [33]) ∧ Hid (∀ W : World, Calls Tryd.prog 18 #[.string p2, .string ⟨#[33]⟩] W fun e w' => e = .returned (.tuple #[.string kd, .bool cb]) ∧ w' = W) := ⟨_, _, ⟨rfl, rfl⟩, hide fun W => t_CutSuffix p2 ⟨#[33]⟩ W (by omega)⟩
            obtain ⟨mi, hmi⟩ : ∃ m, m = idxOfS modesI p1 := ⟨_, rfl⟩
            obtain ⟨ti, hti⟩ : ∃ m, m = idxOfS typesI kd := ⟨_, rfl⟩
            have hm0 : -1 ≤ mi ∧ mi ≤ 3 := by rw [hmi]; exact idxOfS_range modesI p1
            have ht0 : -1 ≤ ti ∧ ti ≤ 4 := by rw [hti]; exact idxOfS_range typesI kd
            obtain ⟨hm0, hm1⟩ := hm0
            obtain ⟨ht0, ht1⟩ := ht0
            have hwm : IntKind.i64.wrap (1 + mi) = 1 + mi := by rw [IntKind.wrap_i64]; omega
            have hwt : IntKind.i64.wrap (1 + ti) = 1 + ti := by rw [IntKind.wrap_i64]; omega
            have Hx : Hid (attI p = ⟨p0, 1 + ti, 1 + mi, cb⟩) := hide (by rw [hat, hti, hmi, hkc.1, hkc.2]; rfl)
            have HIM : Hid (∀ W : World, Below w.heap.size w W → Calls Tryd.prog 19 #[.slice (some ⟨0, 0, none⟩) 3 3, .string p1] W fun e w' => e = .returned (.int .i64 mi) ∧ w' = W) := hide fun W h => by
              have h1 := t_IndexS 0 0 3 3 modesI p1 W (by decide) (by decide) (words_cells (HM.out W h))
              rw [hmi]
              exact h1
            have HIT : Hid (∀ W : World, Below w.heap.size w W → Calls Tryd.prog 19 #[.slice (some ⟨1, 0, none⟩) 4 4, .string kd] W fun e w' => e = .returned (.int .i64 ti) ∧ w' = W) := hide fun W h => by
              have h1 := t_IndexS 1 0 4 4 typesI kd W (by decide) (by decide) (words_cells (HT.out W h))
              rw [hti]
              exact h1
            clear hat hkc hmi hti
            go_wp2_with (first
              | (at_builtin; refine app_two rfl (.tmp 30) (.tmp 31) 43 rfl Tryd.underlying43 w5 wo.heap.size _ ps ⟨#[]⟩ ⟨#[]⟩ Hrow5.out rfl rfl (by omega) hz5 ?_; intro g6 c6 w6 hown6 hg6 hb6; have hpp : ∀ j x, (prtI p)[j]? = some x → w6.cell? ⟨g6, j, none⟩ = some (.string x) := (fun j x hx => row_at hown6 j x (by rw [← Hps2.out]; exact hx)); have k0 := hpp 0 p0 Hp0.out; have k1 := hpp 1 p1 Hp1.out; have k2 := hpp 2 p2 Hp2.out; have hg6z : g6 < w6.heap.size := (hown6.lt g6 rfl).2; have hO6 : Below wo.heap.size wo w6 := HB5.out.trans hb6; have hz6 := hO6.size; clear hpp hown6 hb6)
              | (go_at_call 18; refine Calls.mono (HC.out _) ?_; rintro en w' ⟨rfl, hw9⟩; obtain rfl := hw9.symm))
            have m0 : ∀ W : World, Below w6.heap.size w6 W → W.cell? ⟨g6, 0, none⟩ = some (.string p0) := fun W h => (h.cell (p := ⟨g6, 0, none⟩) hg6z).trans k0
            have m1 : ∀ W : World, Below w6.heap.size w6 W → W.cell? ⟨g6, 1, none⟩ = some (.string p1) := fun W h => (h.cell (p := ⟨g6, 1, none⟩) hg6z).trans k1
            have h66 : Below w6.heap.size w6 w6 := Below.refl _ _
            have H6w : Hid (∀ W : World, Below w6.heap.size w6 W → Below w.heap.size w W) := hide fun W h => HwV.out.trans ((hO6.trans (h.mono hz6)).mono HwV.out.size)
            have HO6 := hide hO6
            clear k0 k1 k2 hO6
            have hb0 : (0 : Int) < (ps.length : Int) + 2 := by omega
            have hb1 : (1 : Int) < (ps.length : Int) + 2 := by omega
            have hb2 : (0 : Int) < ((ps.length + 2 : Nat) : Int) := by omega
            have hb3 : (1 : Int) < ((ps.length + 2 : Nat) : Int) := by omega
            have hb4 : (0 : Nat) < ps.length + 2 := by omega
            have hb5 : (1 : Nat) < ps.length + 2 := by omega
            go_region_held3 (fun W => Below w6.heap.size w6 W)
              (first | assumption | exact Below.drew (by assumption) | exact below_alloc (Nat.le_refl _) _ (by assumption) | exact Below.drew (below_alloc (Nat.le_refl _) _ (by assumption)))
              (first
                | (go_at_call_has 19 p1; refine Calls.mono (HIM.out _ (H6w.out _ (by (repeat (first | assumption | exact Below.refl _ _ | apply Below.drew | refine below_alloc (Nat.le_refl _) _ ?_))))) ?_; rintro en w' ⟨rfl, hw9⟩; obtain rfl := hw9.symm)
                | (go_at_call_has 19 kd; refine Calls.mono (HIT.out _ (H6w.out _ (by (repeat (first | assumption | exact Below.refl _ _ | apply Below.drew | refine below_alloc (Nat.le_refl _) _ ?_))))) ?_; rintro en w' ⟨rfl, hw9⟩; obtain rfl := hw9.symm))
            all_goals
              have hO7 : Below wo.heap.size wo (w6.alloc (.cells #[.string p0, .int .i64 (1 + ti), .int .i64 (1 + mi), .bool cb] 33)).drew := (HO6.out.alloc hz6 _).drew
              have hc7 : CellsAt (w6.alloc (.cells #[.string p0, .int .i64 (1 + ti), .int .i64 (1 + mi), .bool cb] 33)).drew w6.heap.size 0 [.string p0, .int .i64 (1 + ti), .int .i64 (1 + mi), .bool cb] := fun i u hu => CellsAt.new w6 [.string p0, .int .i64 (1 + ti), .int .i64 (1 + mi), .bool cb] 33 i u hu
              generalize (w6.alloc (.cells #[.string p0, .int .i64 (1 + ti), .int .i64 (1 + mi), .bool cb] 33)).drew = W7 at hO7 hc7 ⊢
              have HO7 := hide hO7
              have Hc7 := hide hc7
              have kb7 : W7.cell? ⟨w2.heap.size, 1, none⟩ = some (.slice A xs.length capv) := (hO7.cell (p := ⟨w2.heap.size, 1, none⟩) hwlt).trans (cell_at (i := 1) Hbx.out (by simp))
              have Hok7 : Hid ((⟨p0, 1 + ti, 1 + mi, cb⟩ : Atr).ok) := hide (by rw [← Hx.out]; exact Hok.out)
              clear hO7 hc7 m0 m1 h66 hwm hwt
              go_wp2_with (first
                | refine wpList_load_at 33 (.tmp 11) rfl Tryd.underlying33 rfl Hia.out rfl rfl (by rfl) Hc7.out ?_
                | (at_builtin; refine app_ownS rfl (.tmp 56) (.tmp 58) 24 33 rfl Tryd.underlying24 infoAtr2 rfl (by decide) (AtrR.good D) wo W7 (w2.heap.size + 1) _ xs F' Ho.out rfl HO7.out ⟨p0, 1 + ti, 1 + mi, cb⟩ [.string p0, .int .i64 (1 + ti), .int .i64 (1 + mi), .bool cb] [] ⟨rfl, Hok7.out, rfl, rfl, rfl, rfl, rfl⟩ (Fresh.nil _ _) (by simp [Value.oneCell']) rfl (by omega) (by omega) hwlt ?_; intro v8 w8 hown8 hbl8; obtain ⟨A8, cap8, hv8, _, _⟩ := hown8.form; rw [show (xs ++ [(⟨p0, 1 + ti, 1 + mi, cb⟩ : Atr)]).length = xs.length + 1 from by simp] at hv8; subst hv8; have hS8 : Below w2.heap.size V w8 := hBr.trans (hbl8.mono (Nat.le_succ _)); have zb8 : w8.heap[w2.heap.size]? = some (.cells #[.string nm, .slice A xs.length capv] 26 (0, 0)) := (hbl8.block w2.heap.size (Nat.lt_succ_self _)).trans Hbx.out; have q8 : w8.cell? ⟨w2.heap.size, 1, none⟩ = some (.slice A xs.length capv) := cell_at (i := 1) zb8 (by simp); have y8 := frozen_of_row w8 _ 1 _ _ zb8; have Hown8 := hide hown8; have Hzb8 := hide zb8; have HS8 := hide hS8; clear hown8 hbl8 zb8 hS8))
              have hown5 : OwnS 4 (AtrR D) (w2.heap.size + 1) 33 (w8.setCell ⟨w2.heap.size, 1, none⟩ (.slice A8 (xs.length + 1) cap8)) (xs ++ [attI p]) (.slice A8 (xs.length + 1) cap8) (F' ++ []) := by
                rw [Hx.out]
                exact OwnS.same (AtrR.good D) Hown8.out (fun k hk _ => heap_setCell_other _ _ _ _ (by simp; omega)) (by simp)
              have zb5 := heap_setCell_same w8 w2.heap.size 1 _ _ (.slice A8 (xs.length + 1) cap8) Hzb8.out
              have hB5 : Below w2.heap.size V (w8.setCell ⟨w2.heap.size, 1, none⟩ (.slice A8 (xs.length + 1) cap8)) := Below.setCell (p := ⟨w2.heap.size, 1, none⟩) HS8.out (Nat.le_refl _) _
              have hz9 : V.heap.size ≤ (w8.setCell ⟨w2.heap.size, 1, none⟩ (.slice A8 (xs.length + 1) cap8)).heap.size := hB5.size
              have Hown5 := hide hown5
              have Hzb9 := hide zb5
              have HB9 := hide hB5
              clear hown5 zb5 hB5 q8 y8 kb7
              go_wp2_with fail
              go_roundw
              case rel => exact ⟨j + 1, _, _, by omega, by go_num, hide (by exact Hzb9.out), hide (by rw [show j + 1 + 2 = j + 2 + 1 by omega, Hnx.out]; exact Hown5.out.same (AtrR.good D) (fun _ _ _ => rfl) (Nat.le_refl _)), hide (HB9.out.trans (by (repeat (first | exact Below.refl _ _ | apply Below.drew)))), by exact hz9⟩
              case measure => simp [RowKit.intOf]; omega
        · have hjl : j = L - 2 := by omega
          subst hjl
          have hL2 : L - 2 + 2 = L := by omega
          have hxs : (((wordsI s).take (L - 2 + 2)).drop 2).map attI = (symI s).attrs := by rw [Hats.out, hL2, HL.out, List.take_length]
          rw [hxs] at Ho Hbx
          obtain ⟨G, h1, h2⟩ := Ho.out.slr (AtrR.good D)
          have hX : SymR D wo (symI s) [.string nm, .slice A (symI s).attrs.length capv] G := ⟨_, G, rfl, ⟨by rw [Hnm.out]; exact Hn1.out⟩, by rw [Hnm.out]; rfl, ⟨rfl, h1⟩, rfl⟩
          have hXn : (symI s).attrs.length ≤ 1048576 := by rw [Hats.out, List.length_map, List.length_drop, ← HL.out]; omega
          have hcS : CellsAt wo w2.heap.size 0 [.string nm, .slice A (symI s).attrs.length capv] := fun i u hu => by
            rw [cell_of_row _ _ _ _ _ _ Hbx.out, Nat.zero_add]
            simpa using hu
          have HcS := hide hcS
          have HX := hide hX
          have Hf := hide h2
          have Hlt := hide ((SymR.good D).lt hX)
          have hnlt : w.heap.size < w2.heap.size := blk_lt Hzb0.out
          clear h1 h2 hX hcS hxs
          have HwV : Hid (Below w.heap.size w wo) := hide (HB2.out.trans ((HV.out.trans (hBr.mono (Nat.le_refl _))).mono (by omega)))
          have Hp : Hid ((fmtSym (symI s) = s → parseY s = (symI s, true)) ∧ (fmtSym (symI s) ≠ s → parseY s = (zeroY, false))) := hide ⟨parseQ_yes Hw2.out, parseQ_not⟩
          go_wp2_with (refine wpList_load_at 26 (.tmp 5) rfl Tryd.underlying26 rfl Hi.out rfl rfl (by rfl) HcS.out ?_)
          refine Calls.mono (i_FormatSymbol D (symI s) _ G wo HX.out hXn (HM.out _ HwV.out) (HT.out _ HwV.out)) ?_
          rintro en w6 ⟨rfl, hb⟩
          have z5 : w6.heap[w2.heap.size]? = some (.cells #[.string nm, .slice A (symI s).attrs.length capv] 26 (0, 0)) := (hb.block _ hwlt).trans Hbx.out
          have z0 : w6.heap[w.heap.size]? = some (.cells #[.string ⟨#[]⟩, .slice none 0 0] 26 (0, 0)) := (hb.block _ (by omega)).trans ((hBr.block _ hnlt).trans ((HV.out.block _ hnlt).trans Hzb0.out))
          have hB6 : Below w.heap.size w w6 := HB2.out.trans (((HV.out.mono (by omega)).trans (hBr.mono (by omega))).trans (hb.mono (by omega)))
          have hX6 := (SymR.good D).below HX.out hb Hlt.out
          have hf6 : Fresh (w2.heap.size + 1) w6 G := Hf.out.below hb
          have hc6 : CellsAt w6 w2.heap.size 0 [.string nm, .slice A (symI s).attrs.length capv] := fun i u hu => by
            rw [cell_of_row _ _ _ _ _ _ z5, Nat.zero_add]
            simpa using hu
          have Hc6 := hide hc6
          have Hz0 := hide z0
          have HB6 := hide hB6
          have HX6 := hide hX6
          have Hf6 := hide hf6
          clear z5 z0 hB6 hX6 hf6 hc6 hb
          by_cases he : fmtSym (symI s) = s
          · have Hq := hide (Hp.out.1 he)
            rw [he]
            clear he
            go_wp2_with (first
              | refine wpList_load_at 26 (.tmp 5) rfl Tryd.underlying26 rfl Hi.out rfl rfl (by rfl) Hc6.out ?_
              | (refine wpList_store_at 26 (.tmp 2) (.tmp 67) (cs := [.string nm, .slice A (symI s).attrs.length capv]) rfl Hi.out rfl rfl rfl rfl (by simp [Value.oneCell']) Hz0.out (by decide) ?_; intro WF hP; have HP := hide hP; clear hP))
            obtain ⟨x0, x1⟩ := HP.out.cellsAt.two0
            have hfar : ∀ k ∈ G, WF.heap[k]? = w6.heap[k]? := fun k hk => HP.out.far k (by have := Hf6.out.from_ k hk; omega)
            exact bodyPost_ret (v := .tuple #[.agg #[.string nm, .slice A (symI s).attrs.length capv], .bool true]) (by simp [results, Tryd.results7, go_sem, x0, x1]) rfl ⟨[.string nm, .slice A (symI s).attrs.length capv], G, by rw [Hq.out], by rw [Hq.out]; exact (SymR.good D).frame HX6.out hfar (by rw [HP.out.size]; exact Nat.le_refl _), (Hf6.out.keep hfar).mono (by omega), HB6.out.trans (HP.out.below (Nat.le_refl _))⟩
          · have Hq := hide (Hp.out.2 he)
            have hne : ((fmtSym (symI s)).toList == s.toList) = false := (bytes_beq_false_iff _ _).2 he
            clear he
            generalize fmtSym (symI s) = T at hne ⊢
            go_wp2_with (refine wpList_store_at 26 (.tmp 2) (.tmp 66) (cs := [.string ⟨#[]⟩, .slice none 0 0]) rfl Hi.out rfl rfl rfl rfl (by simp [Value.oneCell']) Hz0.out (by decide) ?_; intro WF hP; have HP := hide hP; clear hP)
            obtain ⟨x0, x1⟩ := HP.out.cellsAt.two0
            exact bodyPost_ret (v := .tuple #[.agg #[.string ⟨#[]⟩, .slice none 0 0], .bool false]) (by simp [results, Tryd.results7, go_sem, x0, x1]) rfl ⟨[.string ⟨#[]⟩, .slice none 0 0], [], by rw [Hq.out], by rw [Hq.out]; exact zeroY_R D WF, Fresh.nil _ _, HB6.out.trans (HP.out.below (Nat.le_refl _))⟩
end Go.Proofs.YtilndebjnibgjaaDoor
