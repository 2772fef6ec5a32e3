/- Tokens: the program's token at a place, a number. Conditions: the place lies in the text; the library's variables are laid. -/
import Derived.Test.YtigdciegnpejoaaDoorTokN
import Derived.Test.YtigdciegnpejoaaDoorParse
import Derived.Test.YtigdciegnpejoaaDoorWhole
namespace Go.Proofs.YtigdciegnpejoaaDoor
set_option maxRecDepth 100000
open Go.RowKit Go.Lib
set_option linter.unusedVariables false

set_option maxRecDepth 100000 in
set_option maxHeartbeats 1000000 in
theorem i_tok_num (s : ByteArray) (hs : s.size ≤ 1048576) (a : Nat) (ha : a < s.size) (hl : low s[a] = false) (hd : dig s[a] = true) (w : World) (hW : NumW w) :
    Calls Tryd.prog 52 #[.string s, .int .i64 a] w fun en w' => en = .returned (tokV (tokN (s.data.toList.drop a) a)) ∧ Below w.heap.size w w' := by
  have Hr : Hid (tokN (s.data.toList.drop a) a = match numIn ((s.data.toList.drop a).take (spanL dig (s.data.toList.drop a))) 0 1000000 with | some n => some (⟨2, n, a, ⟨#[]⟩⟩, spanL dig (s.data.toList.drop a)) | none => none) := hide (by
    rw [drop_at ha]
    simp only [tokN, hl, hd, if_true, Bool.false_eq_true, if_false]
    rfl)
  have HNW : Hid (∀ W : World, Below w.heap.size w W → NumW W) := hide fun W h => hW.below h
  clear hW
  have ha0 : (0 : Int) ≤ (a : Int) := by omega
  have ha1 : (a : Int) < (s.size : Int) := by omega
  have hB0 : Below w.heap.size w w := Below.refl _ _
  go_enter Tryd.func52, Tryd.ntmps52
  go_wp2_with (first
    | (go_at_call 68; refine (i_isLower _ _).mono ?_; rintro e w' ⟨rfl, rfl⟩; rw [hl])
    | (go_at_call 69; refine (i_isDigit _ _).mono ?_; rintro e w' ⟨rfl, rfl⟩; rw [hd]))
  go_loop [6] (fun i => ∃ k : Nat, a + k ≤ s.size ∧ i = .int .i64 ((a + k : Nat) : Int) ∧ Hid (∀ j, j < k → ∀ hj : a + j < s.size, dig s[a + j] = true)) (fun i => s.size - (RowKit.intOf i).toNat)
  case atStart => exact ⟨0, by omega, rfl, hide fun j hj => by omega⟩
  case round =>
    obtain ⟨k, hk, rfl, Hno⟩ := hrel
    have hext : (s.extract a (a + k)).size ≤ 1048576 := by rw [ByteArray.size_extract]; omega
    by_cases hlt : a + k < s.size
    · cases hD : dig s[a + k]
      · have hsp := span_at (p := dig) hk Hno.out (fun _ => hD)
        have Hsp := hide hsp
        clear hsp
        have hdt : (s.extract a (a + k)).data.toList = (s.data.toList.drop a).take k := by rw [ext_take]
        have Hdt := hide hdt
        clear hdt
        go_wp2_with (go_at_call 69; refine (i_isDigit _ _).mono ?_; rintro e w' ⟨rfl, rfl⟩; rw [hD])
        refine Calls.mono (i_numberIn (s.extract a (a + k)) 0 1000000 (by decide) (by decide) hext _ (HNW.out _ (hB0.alloc (Nat.le_refl _) _))) ?_
        rintro en w1 ⟨rfl, hb⟩
        have hB1 : Below w.heap.size w w1 := (hB0.alloc (Nat.le_refl _) _).trans (hb.mono (by rw [World.size_alloc]; omega))
        have zb : w1.heap[w.heap.size]? = some (.cells #[.int .i64 0, .int .i64 0, .int .i64 0, .string ⟨#[]⟩] 48 (0, 0)) := blk_below (heap_alloc_new w (.cells #[.int .i64 0, .int .i64 0, .int .i64 0, .string ⟨#[]⟩] 48)) hb (by rw [World.size_alloc]; omega)
        have Hi : Hid ((Tryd.prog.info? 48).map (·.size) = some 4) := hide (by kernel_rfl)
        clear hb
        rw [Hdt.out]
        have Hr2 : Hid (tokN (s.data.toList.drop a) a = match numIn ((s.data.toList.drop a).take k) 0 1000000 with | some n => some (⟨2, n, a, ⟨#[]⟩⟩, k) | none => none) := hide (by rw [Hr.out, Hsp.out])
        cases hq : numIn ((s.data.toList.drop a).take k) 0 1000000 with
        | none =>
          have Hq := hide (show tokN (s.data.toList.drop a) a = none by rw [Hr2.out, hq])
          clear hq
          simp only [readV, Option.getD_none, Option.isSome_none]
          go_wp2_with (refine wpList_store_at 48 (.tmp 4) (.tmp 74) (cs := [.int .i64 0, .int .i64 0, .int .i64 0, .string ⟨#[]⟩]) rfl Hi.out rfl rfl rfl rfl (by simp [Value.oneCell']) zb (by decide) ?_; intro WF hP; have HP := hide hP; clear hP)
          have hc := HP.out.cellsAt
          have x0 := hc 0 _ rfl
          have x1 := hc 1 _ rfl
          have x2 := hc 2 _ rfl
          have x3 := hc 3 _ rfl
          simp only [Nat.zero_add] at x0 x1 x2 x3
          exact bodyPost_ret (v := .tuple #[.agg #[.int .i64 0, .int .i64 0, .int .i64 0, .string ⟨#[]⟩], .int .i64 0]) (by simp [results, Tryd.results52, go_sem, x0, x1, x2, x3]; try omega) rfl ⟨by rw [Hq.out]; rfl, hB1.trans (HP.out.below (Nat.le_refl _))⟩
        | some n =>
          have Hq := hide (show tokN (s.data.toList.drop a) a = some (⟨2, n, a, ⟨#[]⟩⟩, k) by rw [Hr2.out, hq])
          clear hq
          simp only [readV, Option.getD_some, Option.isSome_some]
          go_wp2_with (refine wpList_store_at 48 (.tmp 4) (.tmp 77) (cs := [.int .i64 2, .int .i64 n, .int .i64 a, .string ⟨#[]⟩]) rfl Hi.out rfl rfl rfl rfl (by simp [Value.oneCell']) zb (by decide) ?_; intro WF hP; have HP := hide hP; clear hP)
          have hc := HP.out.cellsAt
          have x0 := hc 0 _ rfl
          have x1 := hc 1 _ rfl
          have x2 := hc 2 _ rfl
          have x3 := hc 3 _ rfl
          simp only [Nat.zero_add] at x0 x1 x2 x3
          exact bodyPost_ret (v := .tuple #[.agg #[.int .i64 2, .int .i64 n, .int .i64 a, .string ⟨#[]⟩], .int .i64 k]) (by simp [results, Tryd.results52, go_sem, x0, x1, x2, x3]; try omega) rfl ⟨by rw [Hq.out]; rfl, hB1.trans (HP.out.below (Nat.le_refl _))⟩
      · have HD := hide hD
        go_wp2_with (go_at_call 69; refine (i_isDigit _ _).mono ?_; rintro e w' ⟨rfl, rfl⟩; rw [hD])
        go_round
        case rel => exact ⟨k + 1, by omega, by go_num, hide fun j hj hj2 => by
          by_cases h : j < k
          · exact Hno.out j h hj2
          · obtain rfl : j = k := by omega
            exact HD.out⟩
        case measure => simp [RowKit.intOf]; omega
    · have hsp := span_at (p := dig) hk Hno.out (fun h => absurd h hlt)
      have Hsp := hide hsp
      clear hsp
      have hdt : (s.extract a (a + k)).data.toList = (s.data.toList.drop a).take k := by rw [ext_take]
      have Hdt := hide hdt
      clear hdt
      go_wp2_with fail
      refine Calls.mono (i_numberIn (s.extract a (a + k)) 0 1000000 (by decide) (by decide) hext _ (HNW.out _ (hB0.alloc (Nat.le_refl _) _))) ?_
      rintro en w1 ⟨rfl, hb⟩
      have hB1 : Below w.heap.size w w1 := (hB0.alloc (Nat.le_refl _) _).trans (hb.mono (by rw [World.size_alloc]; omega))
      have zb : w1.heap[w.heap.size]? = some (.cells #[.int .i64 0, .int .i64 0, .int .i64 0, .string ⟨#[]⟩] 48 (0, 0)) := blk_below (heap_alloc_new w (.cells #[.int .i64 0, .int .i64 0, .int .i64 0, .string ⟨#[]⟩] 48)) hb (by rw [World.size_alloc]; omega)
      have Hi : Hid ((Tryd.prog.info? 48).map (·.size) = some 4) := hide (by kernel_rfl)
      clear hb
      rw [Hdt.out]
      have Hr2 : Hid (tokN (s.data.toList.drop a) a = match numIn ((s.data.toList.drop a).take k) 0 1000000 with | some n => some (⟨2, n, a, ⟨#[]⟩⟩, k) | none => none) := hide (by rw [Hr.out, Hsp.out])
      cases hq : numIn ((s.data.toList.drop a).take k) 0 1000000 with
      | none =>
        have Hq := hide (show tokN (s.data.toList.drop a) a = none by rw [Hr2.out, hq])
        clear hq
        simp only [readV, Option.getD_none, Option.isSome_none]
        go_wp2_with (refine wpList_store_at 48 (.tmp 4) (.tmp 74) (cs := [.int .i64 0, .int .i64 0, .int .i64 0, .string ⟨#[]⟩]) rfl Hi.out rfl rfl rfl rfl (by simp [Value.oneCell']) zb (by decide) ?_; intro WF hP; have HP := hide hP; clear hP)
        have hc := HP.out.cellsAt
        have x0 := hc 0 _ rfl
        have x1 := hc 1 _ rfl
        have x2 := hc 2 _ rfl
        have x3 := hc 3 _ rfl
        simp only [Nat.zero_add] at x0 x1 x2 x3
        exact bodyPost_ret (v := .tuple #[.agg #[.int .i64 0, .int .i64 0, .int .i64 0, .string ⟨#[]⟩], .int .i64 0]) (by simp [results, Tryd.results52, go_sem, x0, x1, x2, x3]; try omega) rfl ⟨by rw [Hq.out]; rfl, hB1.trans (HP.out.below (Nat.le_refl _))⟩
      | some n =>
        have Hq := hide (show tokN (s.data.toList.drop a) a = some (⟨2, n, a, ⟨#[]⟩⟩, k) by rw [Hr2.out, hq])
        clear hq
        simp only [readV, Option.getD_some, Option.isSome_some]
        go_wp2_with (refine wpList_store_at 48 (.tmp 4) (.tmp 77) (cs := [.int .i64 2, .int .i64 n, .int .i64 a, .string ⟨#[]⟩]) rfl Hi.out rfl rfl rfl rfl (by simp [Value.oneCell']) zb (by decide) ?_; intro WF hP; have HP := hide hP; clear hP)
        have hc := HP.out.cellsAt
        have x0 := hc 0 _ rfl
        have x1 := hc 1 _ rfl
        have x2 := hc 2 _ rfl
        have x3 := hc 3 _ rfl
        simp only [Nat.zero_add] at x0 x1 x2 x3
        exact bodyPost_ret (v := .tuple #[.agg #[.int .i64 2, .int .i64 n, .int .i64 a, .string ⟨#[]⟩], .int .i64 k]) (by simp [results, Tryd.results52, go_sem, x0, x1, x2, x3]; try omega) rfl ⟨by rw [Hq.out]; rfl, hB1.trans (HP.out.below (Nat.le_refl _))⟩
end Go.Proofs.YtigdciegnpejoaaDoor
