/- Tokens: the reference's token at a place, a name. Conditions: the place lies in the text. -/
import Derived.Test.YtigdciegnpejoaaDoorTokI
namespace Go.Proofs.YtigdciegnpejoaaDoor
set_option maxRecDepth 100000
open Go.RowKit
set_option linter.unusedVariables false

/-- What the reference's reader returns: at an error some token and length 0. -/
def TokS (o : Option (Tkn × Nat)) (en : Ending) : Prop := match o with
  | some (t, k) => en = .returned (tokV (some (t, k)))
  | none => ∃ (k n p : Int) (x : ByteArray), en = .returned (.tuple #[.agg #[.int .i64 k, .int .i64 n, .int .i64 p, .string x], .int .i64 0])
set_option maxRecDepth 100000 in
set_option maxHeartbeats 1000000 in
theorem s_tok_name (s : ByteArray) (hs : s.size ≤ 1048576) (a : Nat) (ha : a < s.size) (hl : low s[a] = true) (w : World) :
    Calls Tryd.prog 51 #[.string s, .int .i64 a] w fun en w' => TokS (tokN (s.data.toList.drop a) a) en ∧ Below w.heap.size w w' := by
  have Hr : Hid (tokN (s.data.toList.drop a) a = if 8 < spanL ldg (s.data.toList.drop a) then none else some (⟨1, 0, a, ⟨((s.data.toList.drop a).take (spanL ldg (s.data.toList.drop a))).toArray⟩⟩, spanL ldg (s.data.toList.drop a))) := hide (by
    rw [drop_at ha]
    simp only [tokN, hl, if_true])
  have ha0 : (0 : Int) ≤ (a : Int) := by omega
  have ha1 : (a : Int) < (s.size : Int) := by omega
  go_enter Tryd.func51, Tryd.ntmps51
  go_wp2_with (go_at_call 73; refine (s_l5Letter _ _).mono ?_; rintro e w' ⟨rfl, rfl⟩; rw [hl])
  go_loop [7] (fun i => ∃ k : Nat, a + k ≤ s.size ∧ i = .int .i64 ((a + k : Nat) : Int) ∧ Hid (∀ j, j < k → ∀ hj : a + j < s.size, ldg s[a + j] = true)) (fun i => s.size - (RowKit.intOf i).toNat)
  case atStart => exact ⟨0, by omega, rfl, hide fun j hj => by omega⟩
  case round =>
    obtain ⟨k, hk, rfl, Hno⟩ := hrel
    by_cases hlt : a + k < s.size
    · cases hg : ldg s[a + k]
      · have hL : low s[a + k] = false := by cases h : low s[a + k]; rfl; rw [ldg, h] at hg; cases hg
        have hD : dig s[a + k] = false := by cases h : dig s[a + k]; rfl; rw [ldg, h, Bool.or_true] at hg; cases hg
        have hsp := span_at (p := ldg) hk Hno.out (fun _ => hg)
        clear hg
        by_cases h8 : 8 < k
        · have Hq := hide (show tokN (s.data.toList.drop a) a = none by rw [Hr.out, hsp, if_pos h8])
          clear hsp
          go_wp2_with (first
        | (go_at_call 73; refine (s_l5Letter _ _).mono ?_; rintro e w' ⟨rfl, rfl⟩)
        | (go_at_call 74; refine (s_l5Digit _ _).mono ?_; rintro e w' ⟨rfl, rfl⟩))
          exact bodyPost_ret (v := .tuple #[.agg #[.int .i64 1, .int .i64 0, .int .i64 a, .string (s.extract a (a + k))], .int .i64 0]) (by simp [results, Tryd.results51, go_sem]; try omega) rfl ⟨by rw [Hq.out]; first | rfl | exact ⟨_, _, _, _, rfl⟩, by first | exact Below.refl _ _ | exact (Below.refl _ _).alloc (Nat.le_refl _) _ | exact ((Below.refl _ _).alloc (Nat.le_refl _) _).alloc (by simp) _⟩
        · have Hq := hide (show tokN (s.data.toList.drop a) a = some (⟨1, 0, a, s.extract a (a + k)⟩, k) by rw [Hr.out, hsp, if_neg h8, ext_take])
          clear hsp
          go_wp2_with (first
        | (go_at_call 73; refine (s_l5Letter _ _).mono ?_; rintro e w' ⟨rfl, rfl⟩)
        | (go_at_call 74; refine (s_l5Digit _ _).mono ?_; rintro e w' ⟨rfl, rfl⟩))
          exact bodyPost_ret (v := .tuple #[.agg #[.int .i64 1, .int .i64 0, .int .i64 a, .string (s.extract a (a + k))], .int .i64 k]) (by simp [results, Tryd.results51, go_sem]; try omega) rfl ⟨by rw [Hq.out]; first | rfl | exact ⟨_, _, _, _, rfl⟩, by first | exact Below.refl _ _ | exact (Below.refl _ _).alloc (Nat.le_refl _) _ | exact ((Below.refl _ _).alloc (Nat.le_refl _) _).alloc (by simp) _⟩
      · have Hg := hide hg
        clear hg
        cases hL : low s[a + k] <;> cases hD : dig s[a + k]
        case false.false =>
          have := Hg.out
          rw [ldg, hL, hD] at this
          cases this
        all_goals go_wp2_with (first
        | (go_at_call 73; refine (s_l5Letter _ _).mono ?_; rintro e w' ⟨rfl, rfl⟩)
        | (go_at_call 74; refine (s_l5Digit _ _).mono ?_; rintro e w' ⟨rfl, rfl⟩))
        all_goals
          go_round
          case rel => exact ⟨k + 1, by omega, by go_num, hide fun j hj hj2 => by
            by_cases h : j < k
            · exact Hno.out j h hj2
            · obtain rfl : j = k := by omega
              exact Hg.out⟩
          case measure => simp [RowKit.intOf]; omega
    · have hsp := span_at (p := ldg) hk Hno.out (fun h => absurd h hlt)
      by_cases h8 : 8 < k
      · have Hq := hide (show tokN (s.data.toList.drop a) a = none by rw [Hr.out, hsp, if_pos h8])
        clear hsp
        go_wp2_with (first
      | (go_at_call 73; refine (s_l5Letter _ _).mono ?_; rintro e w' ⟨rfl, rfl⟩)
      | (go_at_call 74; refine (s_l5Digit _ _).mono ?_; rintro e w' ⟨rfl, rfl⟩))
        exact bodyPost_ret (v := .tuple #[.agg #[.int .i64 1, .int .i64 0, .int .i64 a, .string (s.extract a (a + k))], .int .i64 0]) (by simp [results, Tryd.results51, go_sem]; try omega) rfl ⟨by rw [Hq.out]; first | rfl | exact ⟨_, _, _, _, rfl⟩, by first | exact Below.refl _ _ | exact (Below.refl _ _).alloc (Nat.le_refl _) _ | exact ((Below.refl _ _).alloc (Nat.le_refl _) _).alloc (by simp) _⟩
      · have Hq := hide (show tokN (s.data.toList.drop a) a = some (⟨1, 0, a, s.extract a (a + k)⟩, k) by rw [Hr.out, hsp, if_neg h8, ext_take])
        clear hsp
        go_wp2_with (first
      | (go_at_call 73; refine (s_l5Letter _ _).mono ?_; rintro e w' ⟨rfl, rfl⟩)
      | (go_at_call 74; refine (s_l5Digit _ _).mono ?_; rintro e w' ⟨rfl, rfl⟩))
        exact bodyPost_ret (v := .tuple #[.agg #[.int .i64 1, .int .i64 0, .int .i64 a, .string (s.extract a (a + k))], .int .i64 k]) (by simp [results, Tryd.results51, go_sem]; try omega) rfl ⟨by rw [Hq.out]; first | rfl | exact ⟨_, _, _, _, rfl⟩, by first | exact Below.refl _ _ | exact (Below.refl _ _).alloc (Nat.le_refl _) _ | exact ((Below.refl _ _).alloc (Nat.le_refl _) _).alloc (by simp) _⟩
end Go.Proofs.YtigdciegnpejoaaDoor
