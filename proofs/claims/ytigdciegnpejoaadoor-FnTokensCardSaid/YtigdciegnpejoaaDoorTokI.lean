/- Tokens: the program's token at a place, a name. Conditions: the place lies in the text. -/
import Derived.Test.YtigdciegnpejoaaDoorTokS
namespace Go.Proofs.YtigdciegnpejoaaDoor
set_option maxRecDepth 100000
open Go.RowKit
set_option linter.unusedVariables false

def tokV (o : Option (Tkn × Nat)) : Value := match o with
  | some (t, k) => .tuple #[.agg #[.int .i64 t.kind, .int .i64 t.n, .int .i64 t.off, .string t.text], .int .i64 k]
  | none => .tuple #[.agg #[.int .i64 0, .int .i64 0, .int .i64 0, .string ⟨#[]⟩], .int .i64 0]
theorem ext_take (s : ByteArray) (a k : Nat) : s.extract a (a + k) = ⟨((s.data.toList.drop a).take k).toArray⟩ := by
  apply ByteArray.ext
  simp only [ByteArray.data_extract]
  apply Array.ext'
  simp
theorem drop_at {s : ByteArray} {a : Nat} (h : a < s.size) : s.data.toList.drop a = s[a] :: s.data.toList.drop (a + 1) := by
  have := List.drop_eq_getElem_cons (l := s.data.toList) (i := a) (by simpa using h)
  rw [this]
  rfl
theorem drop_get {s : ByteArray} {a j : Nat} {b : UInt8} (h : (s.data.toList.drop a)[j]? = some b) : ∃ hj : a + j < s.size, b = s[a + j] := by
  rw [List.getElem?_drop] at h
  obtain ⟨h1, h2⟩ := List.getElem?_eq_some_iff.1 h
  exact ⟨by simpa using h1, h2.symm⟩
theorem span_at {p : UInt8 → Bool} {s : ByteArray} {a k : Nat} (hk : a + k ≤ s.size) (h1 : ∀ j, j < k → ∀ hj : a + j < s.size, p s[a + j] = true) (h2 : ∀ hj : a + k < s.size, p s[a + k] = false) : spanL p (s.data.toList.drop a) = k :=
  spanL_at (fun j b hj hb => by obtain ⟨h, rfl⟩ := drop_get hb; exact h1 j hj h) (by rw [List.length_drop, Array.length_toList]; show k ≤ s.size - a; omega) (fun b hb => by obtain ⟨h, rfl⟩ := drop_get hb; exact h2 h)
set_option maxRecDepth 100000 in
set_option maxHeartbeats 1000000 in
theorem i_tok_name (s : ByteArray) (hs : s.size ≤ 1048576) (a : Nat) (ha : a < s.size) (hl : low s[a] = true) (w : World) :
    Calls Tryd.prog 52 #[.string s, .int .i64 a] w fun en w' => en = .returned (tokV (tokN (s.data.toList.drop a) a)) ∧ Below w.heap.size w w' := by
  have Hr : Hid (tokN (s.data.toList.drop a) a = if 8 < spanL ldg (s.data.toList.drop a) then none else some (⟨1, 0, a, ⟨((s.data.toList.drop a).take (spanL ldg (s.data.toList.drop a))).toArray⟩⟩, spanL ldg (s.data.toList.drop a))) := hide (by
    rw [drop_at ha]
    simp only [tokN, hl, if_true])
  have ha0 : (0 : Int) ≤ (a : Int) := by omega
  have ha1 : (a : Int) < (s.size : Int) := by omega
  go_enter Tryd.func52, Tryd.ntmps52
  go_wp2_with (go_at_call 68; refine (i_isLower _ _).mono ?_; rintro e w' ⟨rfl, rfl⟩; rw [hl])
  go_loop [6] (fun i => ∃ k : Nat, a + k ≤ s.size ∧ i = .int .i64 ((a + k : Nat) : Int) ∧ Hid (∀ j, j < k → ∀ hj : a + j < s.size, ldg s[a + j] = true)) (fun i => s.size - (RowKit.intOf i).toNat)
  case atStart => exact ⟨0, by omega, rfl, hide fun j hj => by omega⟩
  case round =>
    obtain ⟨k, hk, rfl, Hno⟩ := hrel
    by_cases hlt : a + k < s.size
    · cases hg : ldg s[a + k]
      · have hL : low s[a + k] = false := by cases h : low s[a + k]; rfl; rw [ldg, h] at hg; cases hg
        have hD : dig s[a + k] = false := by cases h : dig s[a + k]; rfl; rw [ldg, h, Bool.or_true] at hg; cases hg
        have hsp := span_at (p := ldg) hk Hno.out (fun _ => hg)
        clear hg
        by_cases h8 : 8 < k
        · have Hq := hide (show tokN (s.data.toList.drop a) a = none by rw [Hr.out, hsp, if_pos h8])
          clear hsp
          go_wp2_with (first
        | (go_at_call 68; refine (i_isLower _ _).mono ?_; rintro e w' ⟨rfl, rfl⟩)
        | (go_at_call 69; refine (i_isDigit _ _).mono ?_; rintro e w' ⟨rfl, rfl⟩))
          exact bodyPost_ret (v := .tuple #[.agg #[.int .i64 0, .int .i64 0, .int .i64 0, .string ⟨#[]⟩], .int .i64 0]) (by simp [results, Tryd.results52, go_sem]; try omega) rfl ⟨by rw [Hq.out]; rfl, by first | exact Below.refl _ _ | exact (Below.refl _ _).alloc (Nat.le_refl _) _⟩
        · have Hq := hide (show tokN (s.data.toList.drop a) a = some (⟨1, 0, a, s.extract a (a + k)⟩, k) by rw [Hr.out, hsp, if_neg h8, ext_take])
          clear hsp
          go_wp2_with (first
        | (go_at_call 68; refine (i_isLower _ _).mono ?_; rintro e w' ⟨rfl, rfl⟩)
        | (go_at_call 69; refine (i_isDigit _ _).mono ?_; rintro e w' ⟨rfl, rfl⟩))
          exact bodyPost_ret (v := .tuple #[.agg #[.int .i64 1, .int .i64 0, .int .i64 a, .string (s.extract a (a + k))], .int .i64 k]) (by simp [results, Tryd.results52, go_sem]; try omega) rfl ⟨by rw [Hq.out]; rfl, by first | exact Below.refl _ _ | exact (Below.refl _ _).alloc (Nat.le_refl _) _⟩
      · have Hg := hide hg
        clear hg
        cases hL : low s[a + k] <;> cases hD : dig s[a + k]
        case false.false =>
          have := Hg.out
          rw [ldg, hL, hD] at this
          cases this
        all_goals go_wp2_with (first
        | (go_at_call 68; refine (i_isLower _ _).mono ?_; rintro e w' ⟨rfl, rfl⟩)
        | (go_at_call 69; refine (i_isDigit _ _).mono ?_; rintro e w' ⟨rfl, rfl⟩))
        all_goals
          go_round
          case rel => exact ⟨k + 1, by omega, by go_num, hide fun j hj hj2 => by
            by_cases h : j < k
            · exact Hno.out j h hj2
            · obtain rfl : j = k := by omega
              exact Hg.out⟩
          case measure => simp [RowKit.intOf]; omega
    · have hsp := span_at (p := ldg) hk Hno.out (fun h => absurd h hlt)
      by_cases h8 : 8 < k
      · have Hq := hide (show tokN (s.data.toList.drop a) a = none by rw [Hr.out, hsp, if_pos h8])
        clear hsp
        go_wp2_with (first
      | (go_at_call 68; refine (i_isLower _ _).mono ?_; rintro e w' ⟨rfl, rfl⟩)
      | (go_at_call 69; refine (i_isDigit _ _).mono ?_; rintro e w' ⟨rfl, rfl⟩))
        exact bodyPost_ret (v := .tuple #[.agg #[.int .i64 0, .int .i64 0, .int .i64 0, .string ⟨#[]⟩], .int .i64 0]) (by simp [results, Tryd.results52, go_sem]; try omega) rfl ⟨by rw [Hq.out]; rfl, by first | exact Below.refl _ _ | exact (Below.refl _ _).alloc (Nat.le_refl _) _⟩
      · have Hq := hide (show tokN (s.data.toList.drop a) a = some (⟨1, 0, a, s.extract a (a + k)⟩, k) by rw [Hr.out, hsp, if_neg h8, ext_take])
        clear hsp
        go_wp2_with (first
      | (go_at_call 68; refine (i_isLower _ _).mono ?_; rintro e w' ⟨rfl, rfl⟩)
      | (go_at_call 69; refine (i_isDigit _ _).mono ?_; rintro e w' ⟨rfl, rfl⟩))
        exact bodyPost_ret (v := .tuple #[.agg #[.int .i64 1, .int .i64 0, .int .i64 a, .string (s.extract a (a + k))], .int .i64 k]) (by simp [results, Tryd.results52, go_sem]; try omega) rfl ⟨by rw [Hq.out]; rfl, by first | exact Below.refl _ _ | exact (Below.refl _ _).alloc (Nat.le_refl _) _⟩
end Go.Proofs.YtigdciegnpejoaaDoor
