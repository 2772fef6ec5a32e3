/- Tokens: all tokens of a text, both sides. Conditions: the text has at most 2^20 bytes; the program's: the library's variables are laid. -/
import Derived.Test.YtigdciegnpejoaaDoorTokC
import Derived.Test.YtigdciegnpejoaaDoorTokQ
import Derived.Test.YtigdciegnpejoaaDoorOwn
namespace Go.Proofs.YtigdciegnpejoaaDoor
set_option maxRecDepth 100000
open Go.RowKit Go.WideShapes
set_option linter.unusedVariables false

theorem infoTkn : (Tryd.prog.info? 48).map (fun i => (i.zero, i.size, i.bytes)) = some (some (.agg #[.int .i64 0, .int .i64 0, .int .i64 0, .string ByteArray.empty]), 4, 40) := by kernel_rfl
theorem toks_long {s : ByteArray} (h : 160 < s.size) : toksOf s = ([], 160) := by unfold toksOf; rw [if_pos h]
theorem toks_start {s : ByteArray} (h : ¬ 160 < s.size) : tokR (s.size - 0) (s.data.toList.drop 0) 0 [] = toksOf s := by unfold toksOf; rw [if_neg h]; rfl
theorem nilTk (D : Nat) (w : World) (A : Option Addr) : SlR 4 (TknR D) w [] (.slice A 0 0) [] := ⟨A, 0, rfl, Nat.le_refl _, by simp [maxLen], .inl ⟨rfl, rfl⟩⟩
theorem tokR_len : ∀ (n : Nat) (l : List UInt8) (a : Nat) (out : List Tkn), out.length ≤ 80 → (tokR n l a out).1.length ≤ 80
  | 0, _, _, out, h => h
  | n + 1, [], _, out, h => h
  | n + 1, b :: r, a, out, h => by
    unfold tokR
    simp only
    split
    · exact tokR_len n r (a + 1) out h
    · split
      · exact Nat.zero_le _
      · split
        · exact Nat.zero_le _
        · exact tokR_len n _ _ _ (by rw [List.length_append]; simp; omega)
theorem toksOf_len (s : ByteArray) : (toksOf s).1.length ≤ 80 := by
  unfold toksOf
  split
  · exact Nat.zero_le _
  · exact tokR_len _ _ _ _ (Nat.zero_le _)

set_option maxRecDepth 100000 in
set_option maxHeartbeats 2000000 in
theorem i_Tokenize (D : Nat) (s : ByteArray) (hs : s.size ≤ 1048576) (w : World) (hW : NumW w) :
    Calls Tryd.prog 22 #[.string s] w fun en w' => ∃ v' G, en = .returned (.tuple #[v', .int .i64 (toksOf s).2]) ∧ SlR 4 (TknR D) w' (toksOf s).1 v' G ∧ Fresh w.heap.size w' G ∧ Below w.heap.size w w' := by
  have HNW : Hid (∀ W : World, Below w.heap.size w W → NumW W) := hide fun W h => hW.below h
  clear hW
  have hB0 : Below w.heap.size w w := Below.refl _ _
  by_cases h160 : 160 < s.size
  · have hz : (160 : Int) < (s.size : Int) := by omega
    have He := hide (toks_long h160)
    clear h160
    go_enter Tryd.func22, Tryd.ntmps22
    go_wp2_with fail
    exact bodyPost_ret (v := .tuple #[.slice none 0 0, .int .i64 160]) (by simp [results, Tryd.results22, go_sem]; try omega) rfl ⟨_, [], by rw [He.out], by rw [He.out]; exact nilTk _ _ _, Fresh.nil _ _, hB0⟩
  have hz : (s.size : Int) ≤ 160 := by omega
  have Hst := hide (toks_start h160)
  have HO0 : Hid (OwnS 4 (TknR D) w.heap.size 48 (w.alloc (.cells #[] 48)) [] (.slice (some ⟨w.heap.size, 0, none⟩) 0 0) []) := hide (OwnS.made w (Nat.le_refl _))
  clear h160
  go_enter Tryd.func22, Tryd.ntmps22
  go_wp2_with fail
  go_loopw [4, 5] (fun o i wr => ∃ (a : Nat) (out : List Tkn), a ≤ s.size ∧ i = .int .i64 a ∧ out.length ≤ 80 ∧ Hid (tokR (s.size - a) (s.data.toList.drop a) a out = toksOf s) ∧ Hid (OwnS 4 (TknR D) w.heap.size 48 wr out o []) ∧ Hid (Below w.heap.size w wr)) (fun _ i _ => s.size - (RowKit.intOf i).toNat)
  case atStart => exact ⟨0, [], by omega, rfl, by decide, Hst, HO0, hide (hB0.alloc (Nat.le_refl _) _)⟩
  case round =>
    obtain ⟨a, out, ha, rfl, h80, Htk, Ho, Hb⟩ := hrel
    obtain ⟨A, cap, rfl, hlc, hm⟩ := Ho.out.form
    have hBr := Hb.out
    have hsz := hBr.size
    clear hlc hm
    by_cases hlt : a < s.size
    · have ha0 : (0 : Int) ≤ (a : Int) := by omega
      have ha1 : (a : Int) < (s.size : Int) := by omega
      by_cases hsp : s[a] = 32
      · have h32 : (s[a].toNat : Int) = 32 := by rw [hsp]; rfl
        have Hnx := hide (tokR_space hlt hsp out)
        clear hsp
        go_wp2_with fail
        go_roundw
        case rel => exact ⟨a + 1, out, by omega, by go_num, h80, hide (by rw [← Hnx.out]; exact Htk.out), Ho, Hb⟩
        case measure => simp [RowKit.intOf]; omega
      · have h32 : ¬ (s[a].toNat : Int) = 32 := fun h => hsp ((u8_eq s[a] 32 (by decide)).2 h)
        have Hsp := hide hsp
        clear hsp
        go_wp2_with fail
        refine Calls.mono (i_tokenAt s hs a hlt wr (HNW.out _ hBr)) ?_
        rintro en w2 ⟨rfl, hb⟩
        have hB2 : Below w.heap.size w w2 := hBr.trans (hb.mono hsz)
        have Hb2 := hide hb
        clear hb
        cases htok : tokN (s.data.toList.drop a) a with
        | none =>
          have He : Hid (toksOf s = ([], (a : Int))) := hide (by rw [← Htk.out]; exact tokR_none hlt Hsp.out out htok)
          clear htok
          simp only [tokV]
          go_wp2_with fail
          exact bodyPost_ret (v := .tuple #[.slice none 0 0, .int .i64 a]) (by simp [results, Tryd.results22, go_sem]; try omega) rfl ⟨_, [], by rw [He.out], by rw [He.out]; exact nilTk _ _ _, Fresh.nil _ _, hB2.alloc hB2.size _⟩
        | some tk =>
          obtain ⟨t, k⟩ := tk
          obtain ⟨hk1, hk2⟩ := tokN_len htok
          obtain ⟨hok, ht8⟩ := tokN_ok (by omega) htok
          rw [List.length_drop, Array.length_toList] at hk2
          have hk3 : a + k ≤ s.size := by have : s.data.size = s.size := rfl; omega
          have Htok := hide htok
          have Hok := hide hok
          clear htok hk2 hok
          simp only [tokV]
          have hk0 : ((k : Int) == 0) = false := by rw [beq_eq_false_iff_ne]; omega
          have hk9 : ¬ (k : Int) = 0 := by omega
          have hk8 : (0 : Int) ≤ (k : Int) := by omega
          have hak : (a : Int) + (k : Int) ≤ 1048576 := by omega
          by_cases hfull : out.length = 80
          · have He : Hid (toksOf s = ([], (a : Int))) := hide (by rw [← Htk.out]; exact tokR_full hlt Hsp.out out Htok.out hfull)
            have hf1 : (out.length : Int) = 80 := by omega
            go_wp2_with fail
            exact bodyPost_ret (v := .tuple #[.slice none 0 0, .int .i64 a]) (by simp [results, Tryd.results22, go_sem]; try omega) rfl ⟨_, [], by rw [He.out], by rw [He.out]; exact nilTk _ _ _, Fresh.nil _ _, hB2.alloc hB2.size _⟩
          · have Hnx := hide (tokR_some hlt Hsp.out out Htok.out hfull)
            have hf1 : ¬ (out.length : Int) = 80 := by omega
            have hout : out.length ≤ 1048576 := by omega
            go_wp2_with (at_builtin; refine app_ownS rfl (.tmp 36) (.tmp 38) 41 48 rfl Tryd.underlying41 infoTkn rfl (by decide) (TknR.good D) wr _ w.heap.size _ out [] Ho.out rfl (Hb2.out.alloc (Below.size Hb2.out) (.cells #[.int .i64 t.kind, .int .i64 t.n, .int .i64 t.off, .string t.text] 48)) t [.int .i64 t.kind, .int .i64 t.n, .int .i64 t.off, .string t.text] [] ⟨rfl, Hok.out, rfl, rfl, rfl, rfl, rfl⟩ (Fresh.nil _ _) (by simp [Value.oneCell']) (by rw [World.size_alloc]; rfl) (by omega) (by omega) hsz ?_; intro v1 w3 hown hbl; have Hown := hide hown; have Hbl := hide (hBr.trans hbl); clear hown hbl)
            go_wp2_with fail
            go_roundw
            case rel => exact ⟨a + k, out ++ [t], hk3, by go_num, by simp; omega, hide (by rw [← Hnx.out]; exact Htk.out), Hown, Hbl⟩
            case measure => simp [RowKit.intOf]; omega
    · have hal : a = s.size := by omega
      subst hal
      have He : Hid (toksOf s = (out, -1)) := hide (by rw [← Htk.out]; exact tokR_end out)
      obtain ⟨G, h1, h2⟩ := Ho.out.slr (TknR.good D)
      have Hs := hide (show ∃ G, SlR 4 (TknR D) wr out (.slice A out.length cap) G ∧ Fresh w.heap.size wr G from ⟨G, h1, h2⟩)
      clear h1 h2
      go_wp2_with fail
      obtain ⟨G, h1, h2⟩ := Hs.out
      exact bodyPost_ret (v := .tuple #[.slice A out.length cap, .int .i64 (-1)]) (by simp [results, Tryd.results22, go_sem]) rfl ⟨_, G, by rw [He.out], by rw [He.out]; exact h1, h2, hBr⟩

set_option maxRecDepth 100000 in
set_option maxHeartbeats 2000000 in
theorem s_Tokenize (D : Nat) (s : ByteArray) (hs : s.size ≤ 1048576) (w : World) :
    Calls Tryd.prog 21 #[.string s] w fun en w' => ∃ v' G, en = .returned (.tuple #[v', .int .i64 (toksOf s).2]) ∧ SlR 4 (TknR D) w' (toksOf s).1 v' G ∧ Fresh w.heap.size w' G ∧ Below w.heap.size w w' := by
  have hB0 : Below w.heap.size w w := Below.refl _ _
  by_cases h160 : 160 < s.size
  · have hz : (160 : Int) < (s.size : Int) := by omega
    have He := hide (toks_long h160)
    clear h160
    go_enter Tryd.func21, Tryd.ntmps21
    go_wp2_with fail
    exact bodyPost_ret (v := .tuple #[.slice (some ⟨w.heap.size, 0, none⟩) 0 0, .int .i64 160]) (by simp [results, Tryd.results21, go_sem]; try omega) rfl ⟨_, [], by rw [He.out], by rw [He.out]; exact nilTk _ _ _, Fresh.nil _ _, below_alloc (Nat.le_refl _) _ (hB0)⟩
  have hz : (s.size : Int) ≤ 160 := by omega
  have Hst := hide (toks_start h160)
  have HO0 : Hid (OwnS 4 (TknR D) w.heap.size 48 (w.alloc (.cells #[] 48)) [] (.slice (some ⟨w.heap.size, 0, none⟩) 0 0) []) := hide (OwnS.made w (Nat.le_refl _))
  clear h160
  go_enter Tryd.func21, Tryd.ntmps21
  go_wp2_with fail
  go_loopw [4, 5] (fun o i wr => ∃ (a : Nat) (out : List Tkn), a ≤ s.size ∧ i = .int .i64 a ∧ out.length ≤ 80 ∧ Hid (tokR (s.size - a) (s.data.toList.drop a) a out = toksOf s) ∧ Hid (OwnS 4 (TknR D) w.heap.size 48 wr out o []) ∧ Hid (Below w.heap.size w wr)) (fun _ i _ => s.size - (RowKit.intOf i).toNat)
  case atStart => exact ⟨0, [], by omega, rfl, by decide, Hst, HO0, hide (hB0.alloc (Nat.le_refl _) _)⟩
  case round =>
    obtain ⟨a, out, ha, rfl, h80, Htk, Ho, Hb⟩ := hrel
    obtain ⟨A, cap, rfl, hlc, hm⟩ := Ho.out.form
    have hBr := Hb.out
    have hsz := hBr.size
    clear hlc hm
    by_cases hlt : a < s.size
    · have ha0 : (0 : Int) ≤ (a : Int) := by omega
      have ha1 : (a : Int) < (s.size : Int) := by omega
      by_cases hsp : s[a] = 32
      · have h32 : (s[a].toNat : Int) = 32 := by rw [hsp]; rfl
        have Hnx := hide (tokR_space hlt hsp out)
        clear hsp
        go_wp2_with fail
        go_roundw
        case rel => exact ⟨a + 1, out, by omega, by go_num, h80, hide (by rw [← Hnx.out]; exact Htk.out), Ho, Hb⟩
        case measure => simp [RowKit.intOf]; omega
      · have h32 : ¬ (s[a].toNat : Int) = 32 := fun h => hsp ((u8_eq s[a] 32 (by decide)).2 h)
        have Hsp := hide hsp
        clear hsp
        go_wp2_with fail
        refine Calls.mono (s_l5Next s hs a hlt wr) ?_
        rintro en w2 ⟨he, hb⟩
        have hB2 : Below w.heap.size w w2 := hBr.trans (hb.mono hsz)
        have Hb2 := hide hb
        clear hb
        cases htok : tokN (s.data.toList.drop a) a with
        | none =>
          have He : Hid (toksOf s = ([], (a : Int))) := hide (by rw [← Htk.out]; exact tokR_none hlt Hsp.out out htok)
          rw [htok] at he
          clear htok
          obtain ⟨k0, n0, p0, x0, rfl⟩ := he
          go_wp2_with fail
          exact bodyPost_ret (v := .tuple #[.slice (some ⟨w2.heap.size + 1, 0, none⟩) 0 0, .int .i64 a]) (by simp [results, Tryd.results21, go_sem]; try omega) rfl ⟨_, [], by rw [He.out], by rw [He.out]; exact nilTk _ _ _, Fresh.nil _ _, below_alloc (Nat.le_refl _) _ (hB2.alloc hB2.size _)⟩
        | some tk =>
          obtain ⟨t, k⟩ := tk
          obtain ⟨hk1, hk2⟩ := tokN_len htok
          obtain ⟨hok, ht8⟩ := tokN_ok (by omega) htok
          rw [List.length_drop, Array.length_toList] at hk2
          have hk3 : a + k ≤ s.size := by have : s.data.size = s.size := rfl; omega
          have Htok := hide htok
          have Hok := hide hok
          rw [htok] at he
          clear htok hk2 hok
          obtain rfl := he
          have hk0 : ((k : Int) == 0) = false := by rw [beq_eq_false_iff_ne]; omega
          have hk9 : ¬ (k : Int) = 0 := by omega
          have hk8 : (0 : Int) ≤ (k : Int) := by omega
          have hak : (a : Int) + (k : Int) ≤ 1048576 := by omega
          by_cases hfull : out.length = 80
          · have He : Hid (toksOf s = ([], (a : Int))) := hide (by rw [← Htk.out]; exact tokR_full hlt Hsp.out out Htok.out hfull)
            have hf1 : (out.length : Int) = 80 := by omega
            simp only [tokV]
            go_wp2_with fail
            exact bodyPost_ret (v := .tuple #[.slice (some ⟨w2.heap.size + 1, 0, none⟩) 0 0, .int .i64 a]) (by simp [results, Tryd.results21, go_sem]; try omega) rfl ⟨_, [], by rw [He.out], by rw [He.out]; exact nilTk _ _ _, Fresh.nil _ _, below_alloc (Nat.le_refl _) _ (hB2.alloc hB2.size _)⟩
          · have Hnx := hide (tokR_some hlt Hsp.out out Htok.out hfull)
            have hf1 : ¬ (out.length : Int) = 80 := by omega
            have hout : out.length ≤ 1048576 := by omega
            simp only [tokV]
            go_wp2_with (at_builtin; refine app_ownS rfl (.tmp 38) (.tmp 40) 41 48 rfl Tryd.underlying41 infoTkn rfl (by decide) (TknR.good D) wr _ w.heap.size _ out [] Ho.out rfl (Hb2.out.alloc (Below.size Hb2.out) (.cells #[.int .i64 t.kind, .int .i64 t.n, .int .i64 t.off, .string t.text] 48)) t [.int .i64 t.kind, .int .i64 t.n, .int .i64 t.off, .string t.text] [] ⟨rfl, Hok.out, rfl, rfl, rfl, rfl, rfl⟩ (Fresh.nil _ _) (by simp [Value.oneCell']) (by rw [World.size_alloc]; rfl) (by omega) (by omega) hsz ?_; intro v1 w3 hown hbl; have Hown := hide hown; have Hbl := hide (hBr.trans hbl); clear hown hbl)
            go_wp2_with fail
            go_roundw
            case rel => exact ⟨a + k, out ++ [t], hk3, by go_num, by simp; omega, hide (by rw [← Hnx.out]; exact Htk.out), Hown, Hbl⟩
            case measure => simp [RowKit.intOf]; omega
    · have hal : a = s.size := by omega
      subst hal
      have He : Hid (toksOf s = (out, -1)) := hide (by rw [← Htk.out]; exact tokR_end out)
      obtain ⟨G, h1, h2⟩ := Ho.out.slr (TknR.good D)
      have Hs := hide (show ∃ G, SlR 4 (TknR D) wr out (.slice A out.length cap) G ∧ Fresh w.heap.size wr G from ⟨G, h1, h2⟩)
      clear h1 h2
      go_wp2_with fail
      obtain ⟨G, h1, h2⟩ := Hs.out
      exact bodyPost_ret (v := .tuple #[.slice A out.length cap, .int .i64 (-1)]) (by simp [results, Tryd.results21, go_sem]) rfl ⟨_, G, by rw [He.out], by rw [He.out]; exact h1, h2, hBr⟩
end Go.Proofs.YtigdciegnpejoaaDoor
