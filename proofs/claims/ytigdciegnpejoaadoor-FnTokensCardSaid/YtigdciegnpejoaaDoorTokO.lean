/- Tokens: the reference's token at a place, a number (not finished). Conditions: the place lies in the text. -/
import Derived.Test.YtigdciegnpejoaaDoorTokM
import Derived.Test.YtigdciegnpejoaaDoorTokQ
namespace Go.Proofs.YtigdciegnpejoaaDoor
set_option maxRecDepth 100000
open Go.RowKit Go.Lib
set_option linter.unusedVariables false

theorem tok_box {w w1 : World} {a : Nat} {T : TypeId} (zb0 : w1.heap[w.heap.size]? = some (.cells #[.int .i64 0, .int .i64 0, .int .i64 0, .string ⟨#[]⟩] T (0, 0))) (zb1 : w1.heap[w.heap.size + 1]? = some (.cells #[.int .i64 0, .int .i64 0, .int .i64 a, .string ⟨#[]⟩] T (0, 0))) (hB : Below w.heap.size w w1) (n : Int) :
    Hid (CellsAt ((w1.setCell ⟨w.heap.size + 1, 0, none⟩ (.int .i64 2)).setCell ⟨w.heap.size + 1, 1, none⟩ (.int .i64 n)) (w.heap.size + 1) 0 [.int .i64 2, .int .i64 n, .int .i64 a, .string ⟨#[]⟩]) ∧
    Hid (((w1.setCell ⟨w.heap.size + 1, 0, none⟩ (.int .i64 2)).setCell ⟨w.heap.size + 1, 1, none⟩ (.int .i64 n)).heap[w.heap.size]? = some (.cells #[.int .i64 0, .int .i64 0, .int .i64 0, .string ⟨#[]⟩] T (0, 0))) ∧
    Hid (Below w.heap.size w ((w1.setCell ⟨w.heap.size + 1, 0, none⟩ (.int .i64 2)).setCell ⟨w.heap.size + 1, 1, none⟩ (.int .i64 n))) := by
  have h1 := heap_setCell_same w1 (w.heap.size + 1) 0 _ T (.int .i64 2) zb1
  have h2 := heap_setCell_same _ (w.heap.size + 1) 1 _ T (.int .i64 n) h1
  refine ⟨hide fun j u hu => ?_, hide ?_, hide (Below.setCell (p := ⟨w.heap.size + 1, 1, none⟩) (Below.setCell (p := ⟨w.heap.size + 1, 0, none⟩) hB (Nat.le_succ _) _) (Nat.le_succ _) _)⟩
  · rw [cell_of_row _ _ _ _ _ _ h2]
    match j, hu with
    | 0, hu => exact hu
    | 1, hu => exact hu
    | 2, hu => exact hu
    | 3, hu => exact hu
  · rw [heap_setCell_other _ _ _ _ (by simp), heap_setCell_other _ _ _ _ (by simp)]
    exact zb0
set_option maxRecDepth 100000 in
set_option maxHeartbeats 1000000 in
theorem s_tok_num (s : ByteArray) (hs : s.size ≤ 1048576) (a : Nat) (ha : a < s.size) (hl : low s[a] = false) (hd : dig s[a] = true) (w : World) :
    Calls Tryd.prog 51 #[.string s, .int .i64 a] w fun en w' => TokS (tokN (s.data.toList.drop a) a) en ∧ Below w.heap.size w w' := by
  have Hr : Hid (tokN (s.data.toList.drop a) a = match numIn ((s.data.toList.drop a).take (spanL dig (s.data.toList.drop a))) 0 1000000 with | some n => some (⟨2, n, a, ⟨#[]⟩⟩, spanL dig (s.data.toList.drop a)) | none => none) := hide (by
    rw [drop_at ha]
    simp only [tokN, hl, hd, if_true, Bool.false_eq_true, if_false]
    rfl)
  have ha0 : (0 : Int) ≤ (a : Int) := by omega
  have ha1 : (a : Int) < (s.size : Int) := by omega
  have hB0 : Below w.heap.size w w := Below.refl _ _
  go_enter Tryd.func51, Tryd.ntmps51
  go_wp2_with (first
    | (go_at_call 73; refine (s_l5Letter _ _).mono ?_; rintro e w' ⟨rfl, rfl⟩; rw [hl])
    | (go_at_call 74; refine (s_l5Digit _ _).mono ?_; rintro e w' ⟨rfl, rfl⟩; rw [hd]))
  go_loop [7] (fun i => ∃ k : Nat, a + k ≤ s.size ∧ i = .int .i64 ((a + k : Nat) : Int) ∧ Hid (∀ j, j < k → ∀ hj : a + j < s.size, dig s[a + j] = true)) (fun i => s.size - (RowKit.intOf i).toNat)
  case atStart => exact ⟨0, by omega, rfl, hide fun j hj => by omega⟩
  case round =>
    obtain ⟨k, hk, rfl, Hno⟩ := hrel
    have hext : (s.extract a (a + k)).size ≤ 1048576 := by rw [ByteArray.size_extract]; omega
    by_cases hlt : a + k < s.size
    · cases hD : dig s[a + k]
      · have hsp := span_at (p := dig) hk Hno.out (fun _ => hD)
        have Hsp := hide hsp
        clear hsp
        have hdt : (s.extract a (a + k)).data.toList = (s.data.toList.drop a).take k := by rw [ext_take]
        have Hdt := hide hdt
        clear hdt
        go_wp2_with (go_at_call 74; refine (s_l5Digit _ _).mono ?_; rintro e w' ⟨rfl, rfl⟩; rw [hD])
        refine Calls.mono (s_ParseInt (s.extract a (a + k)) hext _) ?_
        rintro en w1 ⟨rfl, hb⟩
        have hB1 : Below w.heap.size w w1 := ((hB0.alloc (Nat.le_refl _) _).alloc (by rw [World.size_alloc]; omega) _).trans (hb.mono (by rw [World.size_alloc, World.size_alloc]; omega))
        have zb0 : w1.heap[w.heap.size]? = some (.cells #[.int .i64 0, .int .i64 0, .int .i64 0, .string ⟨#[]⟩] 48 (0, 0)) := blk_below (by rw [Below.heap_alloc _ _ _ (by rw [World.size_alloc]; omega)]; exact heap_alloc_new w _) hb (by rw [World.size_alloc, World.size_alloc]; omega)
        have zb1 : w1.heap[w.heap.size + 1]? = some (.cells #[.int .i64 0, .int .i64 0, .int .i64 a, .string ⟨#[]⟩] 48 (0, 0)) := blk_below (by have h := heap_alloc_new (w.alloc (.cells #[.int .i64 0, .int .i64 0, .int .i64 0, .string ⟨#[]⟩] 48)) (.cells #[.int .i64 0, .int .i64 0, .int .i64 a, .string ⟨#[]⟩] 48); rw [World.size_alloc] at h; exact h) hb (by rw [World.size_alloc, World.size_alloc]; omega)
        have Hnn : Hid (∀ n, numIn ((s.data.toList.drop a).take k) (-999999999999) 999999999999 = some n → ¬ n < 0) := hide fun n hn => numIn_dig hn fun b hb => by
            rw [List.getElem?_take] at hb
            split at hb
            · rw [drop_at ha] at hb
              obtain rfl := Option.some.inj hb
              exact hd
            · cases hb
        clear hb
        rw [Hdt.out]
        have Hr2 : Hid (tokN (s.data.toList.drop a) a = match numIn ((s.data.toList.drop a).take k) 0 1000000 with | some n => some (⟨2, n, a, ⟨#[]⟩⟩, k) | none => none) := hide (by rw [Hr.out, Hsp.out])
        have Hi : Hid ((Tryd.prog.info? 48).map (·.size) = some 4) := hide (by kernel_rfl)
        have q0 := cell_at (i := 0) zb1 (by simp)
        have q1 := cell_at (i := 1) zb1 (by simp)
        have q2 := cell_at (i := 2) zb1 (by simp)
        have q3 := cell_at (i := 3) zb1 (by simp)
        simp only [Array.getD_eq_getD_getElem?, List.getElem?_toArray, List.getElem?_cons_succ, List.getElem?_cons_zero, Option.getD_some] at q0 q1 q2 q3
        have z0 := frozen_of_row w1 _ 0 _ _ zb1
        have z1 := frozen_of_row w1 _ 1 _ _ zb1
        have y0 := frozen_of_row w1 _ 0 _ _ zb0
        have y1 := frozen_of_row w1 _ 1 _ _ zb0
        have y2 := frozen_of_row w1 _ 2 _ _ zb0
        have y3 := frozen_of_row w1 _ 3 _ _ zb0
        cases hq : numIn ((s.data.toList.drop a).take k) (-999999999999) 999999999999 with
        | none =>
          have Hq := hide (show tokN (s.data.toList.drop a) a = none by rw [Hr2.out, numIn_tok, hq])
          clear hq
          simp only [readV, Option.getD_none, Option.isSome_none]
          obtain ⟨Hc, Hz, HB⟩ := tok_box zb0 zb1 hB1 0
          clear zb0 zb1
          go_wp2_with (first
            | refine wpList_load_at 48 (.tmp 6) rfl Tryd.underlying48 rfl Hi.out rfl rfl (by rfl) Hc.out ?_
            | (refine wpList_store_at 48 (.tmp 4) (.tmp 92) (cs := [.int .i64 2, .int .i64 0, .int .i64 a, .string ⟨#[]⟩]) rfl Hi.out rfl rfl rfl rfl (by simp [Value.oneCell']) Hz.out (by decide) ?_; intro WF hP; have HP := hide hP; clear hP))
          have hc := HP.out.cellsAt
          have x0 := hc 0 _ rfl
          have x1 := hc 1 _ rfl
          have x2 := hc 2 _ rfl
          have x3 := hc 3 _ rfl
          simp only [Nat.zero_add] at x0 x1 x2 x3
          exact bodyPost_ret (v := .tuple #[.agg #[.int .i64 2, .int .i64 0, .int .i64 a, .string ⟨#[]⟩], .int .i64 0]) (by simp [results, Tryd.results51, go_sem, x0, x1, x2, x3]; try omega) rfl ⟨by rw [Hq.out]; exact ⟨_, _, _, _, rfl⟩, HB.out.trans (HP.out.below (Nat.le_refl _))⟩
        | some n =>
          simp only [readV, Option.getD_some, Option.isSome_some]
          by_cases hn : 1000000 < n
          · have Hq := hide (show tokN (s.data.toList.drop a) a = none by rw [Hr2.out, numIn_tok, hq]; simp [hn])
            clear hq
            obtain ⟨Hc, Hz, HB⟩ := tok_box zb0 zb1 hB1 n
            clear zb0 zb1
            go_wp2_with (first
              | refine wpList_load_at 48 (.tmp 6) rfl Tryd.underlying48 rfl Hi.out rfl rfl (by rfl) Hc.out ?_
              | (refine wpList_store_at 48 (.tmp 4) (.tmp 92) (cs := [.int .i64 2, .int .i64 n, .int .i64 a, .string ⟨#[]⟩]) rfl Hi.out rfl rfl rfl rfl (by simp [Value.oneCell']) Hz.out (by decide) ?_; intro WF hP; have HP := hide hP; clear hP))
            have hc := HP.out.cellsAt
            have x0 := hc 0 _ rfl
            have x1 := hc 1 _ rfl
            have x2 := hc 2 _ rfl
            have x3 := hc 3 _ rfl
            simp only [Nat.zero_add] at x0 x1 x2 x3
            exact bodyPost_ret (v := .tuple #[.agg #[.int .i64 2, .int .i64 n, .int .i64 a, .string ⟨#[]⟩], .int .i64 0]) (by simp [results, Tryd.results51, go_sem, x0, x1, x2, x3]; try omega) rfl ⟨by rw [Hq.out]; exact ⟨_, _, _, _, rfl⟩, HB.out.trans (HP.out.below (Nat.le_refl _))⟩
          · have Hq := hide (show tokN (s.data.toList.drop a) a = some (⟨2, n, a, ⟨#[]⟩⟩, k) by rw [Hr2.out, numIn_tok, hq]; simp [hn, Hnn.out n hq])
            clear hq
            obtain ⟨Hc, Hz, HB⟩ := tok_box zb0 zb1 hB1 n
            clear zb0 zb1
            go_wp2_with (first
              | refine wpList_load_at 48 (.tmp 6) rfl Tryd.underlying48 rfl Hi.out rfl rfl (by rfl) Hc.out ?_
              | (refine wpList_store_at 48 (.tmp 4) (.tmp 93) (cs := [.int .i64 2, .int .i64 n, .int .i64 a, .string ⟨#[]⟩]) rfl Hi.out rfl rfl rfl rfl (by simp [Value.oneCell']) Hz.out (by decide) ?_; intro WF hP; have HP := hide hP; clear hP))
            have hc := HP.out.cellsAt
            have x0 := hc 0 _ rfl
            have x1 := hc 1 _ rfl
            have x2 := hc 2 _ rfl
            have x3 := hc 3 _ rfl
            simp only [Nat.zero_add] at x0 x1 x2 x3
            exact bodyPost_ret (v := .tuple #[.agg #[.int .i64 2, .int .i64 n, .int .i64 a, .string ⟨#[]⟩], .int .i64 k]) (by simp [results, Tryd.results51, go_sem, x0, x1, x2, x3]; try omega) rfl ⟨by rw [Hq.out]; rfl, HB.out.trans (HP.out.below (Nat.le_refl _))⟩
      · have HD := hide hD
        go_wp2_with (go_at_call 74; refine (s_l5Digit _ _).mono ?_; rintro e w' ⟨rfl, rfl⟩; rw [hD])
        go_round
        case rel => exact ⟨k + 1, by omega, by go_num, hide fun j hj hj2 => by
          by_cases h : j < k
          · exact Hno.out j h hj2
          · obtain rfl : j = k := by omega
            exact HD.out⟩
        case measure => simp [RowKit.intOf]; omega
    · have hsp := span_at (p := dig) hk Hno.out (fun h => absurd h hlt)
      have Hsp := hide hsp
      clear hsp
      have hdt : (s.extract a (a + k)).data.toList = (s.data.toList.drop a).take k := by rw [ext_take]
      have Hdt := hide hdt
      clear hdt
      go_wp2_with fail
      refine Calls.mono (s_ParseInt (s.extract a (a + k)) hext _) ?_
      rintro en w1 ⟨rfl, hb⟩
      have hB1 : Below w.heap.size w w1 := ((hB0.alloc (Nat.le_refl _) _).alloc (by rw [World.size_alloc]; omega) _).trans (hb.mono (by rw [World.size_alloc, World.size_alloc]; omega))
      have zb0 : w1.heap[w.heap.size]? = some (.cells #[.int .i64 0, .int .i64 0, .int .i64 0, .string ⟨#[]⟩] 48 (0, 0)) := blk_below (by rw [Below.heap_alloc _ _ _ (by rw [World.size_alloc]; omega)]; exact heap_alloc_new w _) hb (by rw [World.size_alloc, World.size_alloc]; omega)
      have zb1 : w1.heap[w.heap.size + 1]? = some (.cells #[.int .i64 0, .int .i64 0, .int .i64 a, .string ⟨#[]⟩] 48 (0, 0)) := blk_below (by have h := heap_alloc_new (w.alloc (.cells #[.int .i64 0, .int .i64 0, .int .i64 0, .string ⟨#[]⟩] 48)) (.cells #[.int .i64 0, .int .i64 0, .int .i64 a, .string ⟨#[]⟩] 48); rw [World.size_alloc] at h; exact h) hb (by rw [World.size_alloc, World.size_alloc]; omega)
      have Hnn : Hid (∀ n, numIn ((s.data.toList.drop a).take k) (-999999999999) 999999999999 = some n → ¬ n < 0) := hide fun n hn => numIn_dig hn fun b hb => by
            rw [List.getElem?_take] at hb
            split at hb
            · rw [drop_at ha] at hb
              obtain rfl := Option.some.inj hb
              exact hd
            · cases hb
      clear hb
      rw [Hdt.out]
      have Hr2 : Hid (tokN (s.data.toList.drop a) a = match numIn ((s.data.toList.drop a).take k) 0 1000000 with | some n => some (⟨2, n, a, ⟨#[]⟩⟩, k) | none => none) := hide (by rw [Hr.out, Hsp.out])
      have Hi : Hid ((Tryd.prog.info? 48).map (·.size) = some 4) := hide (by kernel_rfl)
      have q0 := cell_at (i := 0) zb1 (by simp)
      have q1 := cell_at (i := 1) zb1 (by simp)
      have q2 := cell_at (i := 2) zb1 (by simp)
      have q3 := cell_at (i := 3) zb1 (by simp)
      simp only [Array.getD_eq_getD_getElem?, List.getElem?_toArray, List.getElem?_cons_succ, List.getElem?_cons_zero, Option.getD_some] at q0 q1 q2 q3
      have z0 := frozen_of_row w1 _ 0 _ _ zb1
      have z1 := frozen_of_row w1 _ 1 _ _ zb1
      have y0 := frozen_of_row w1 _ 0 _ _ zb0
      have y1 := frozen_of_row w1 _ 1 _ _ zb0
      have y2 := frozen_of_row w1 _ 2 _ _ zb0
      have y3 := frozen_of_row w1 _ 3 _ _ zb0
      cases hq : numIn ((s.data.toList.drop a).take k) (-999999999999) 999999999999 with
      | none =>
        have Hq := hide (show tokN (s.data.toList.drop a) a = none by rw [Hr2.out, numIn_tok, hq])
        clear hq
        simp only [readV, Option.getD_none, Option.isSome_none]
        obtain ⟨Hc, Hz, HB⟩ := tok_box zb0 zb1 hB1 0
        clear zb0 zb1
        go_wp2_with (first
          | refine wpList_load_at 48 (.tmp 6) rfl Tryd.underlying48 rfl Hi.out rfl rfl (by rfl) Hc.out ?_
          | (refine wpList_store_at 48 (.tmp 4) (.tmp 92) (cs := [.int .i64 2, .int .i64 0, .int .i64 a, .string ⟨#[]⟩]) rfl Hi.out rfl rfl rfl rfl (by simp [Value.oneCell']) Hz.out (by decide) ?_; intro WF hP; have HP := hide hP; clear hP))
        have hc := HP.out.cellsAt
        have x0 := hc 0 _ rfl
        have x1 := hc 1 _ rfl
        have x2 := hc 2 _ rfl
        have x3 := hc 3 _ rfl
        simp only [Nat.zero_add] at x0 x1 x2 x3
        exact bodyPost_ret (v := .tuple #[.agg #[.int .i64 2, .int .i64 0, .int .i64 a, .string ⟨#[]⟩], .int .i64 0]) (by simp [results, Tryd.results51, go_sem, x0, x1, x2, x3]; try omega) rfl ⟨by rw [Hq.out]; exact ⟨_, _, _, _, rfl⟩, HB.out.trans (HP.out.below (Nat.le_refl _))⟩
      | some n =>
        simp only [readV, Option.getD_some, Option.isSome_some]
        by_cases hn : 1000000 < n
        · have Hq := hide (show tokN (s.data.toList.drop a) a = none by rw [Hr2.out, numIn_tok, hq]; simp [hn])
          clear hq
          obtain ⟨Hc, Hz, HB⟩ := tok_box zb0 zb1 hB1 n
          clear zb0 zb1
          go_wp2_with (first
            | refine wpList_load_at 48 (.tmp 6) rfl Tryd.underlying48 rfl Hi.out rfl rfl (by rfl) Hc.out ?_
            | (refine wpList_store_at 48 (.tmp 4) (.tmp 92) (cs := [.int .i64 2, .int .i64 n, .int .i64 a, .string ⟨#[]⟩]) rfl Hi.out rfl rfl rfl rfl (by simp [Value.oneCell']) Hz.out (by decide) ?_; intro WF hP; have HP := hide hP; clear hP))
          have hc := HP.out.cellsAt
          have x0 := hc 0 _ rfl
          have x1 := hc 1 _ rfl
          have x2 := hc 2 _ rfl
          have x3 := hc 3 _ rfl
          simp only [Nat.zero_add] at x0 x1 x2 x3
          exact bodyPost_ret (v := .tuple #[.agg #[.int .i64 2, .int .i64 n, .int .i64 a, .string ⟨#[]⟩], .int .i64 0]) (by simp [results, Tryd.results51, go_sem, x0, x1, x2, x3]; try omega) rfl ⟨by rw [Hq.out]; exact ⟨_, _, _, _, rfl⟩, HB.out.trans (HP.out.below (Nat.le_refl _))⟩
        · have Hq := hide (show tokN (s.data.toList.drop a) a = some (⟨2, n, a, ⟨#[]⟩⟩, k) by rw [Hr2.out, numIn_tok, hq]; simp [hn, Hnn.out n hq])
          clear hq
          obtain ⟨Hc, Hz, HB⟩ := tok_box zb0 zb1 hB1 n
          clear zb0 zb1
          go_wp2_with (first
            | refine wpList_load_at 48 (.tmp 6) rfl Tryd.underlying48 rfl Hi.out rfl rfl (by rfl) Hc.out ?_
            | (refine wpList_store_at 48 (.tmp 4) (.tmp 93) (cs := [.int .i64 2, .int .i64 n, .int .i64 a, .string ⟨#[]⟩]) rfl Hi.out rfl rfl rfl rfl (by simp [Value.oneCell']) Hz.out (by decide) ?_; intro WF hP; have HP := hide hP; clear hP))
          have hc := HP.out.cellsAt
          have x0 := hc 0 _ rfl
          have x1 := hc 1 _ rfl
          have x2 := hc 2 _ rfl
          have x3 := hc 3 _ rfl
          simp only [Nat.zero_add] at x0 x1 x2 x3
          exact bodyPost_ret (v := .tuple #[.agg #[.int .i64 2, .int .i64 n, .int .i64 a, .string ⟨#[]⟩], .int .i64 k]) (by simp [results, Tryd.results51, go_sem, x0, x1, x2, x3]; try omega) rfl ⟨by rw [Hq.out]; rfl, HB.out.trans (HP.out.below (Nat.le_refl _))⟩
end Go.Proofs.YtigdciegnpejoaaDoor
