/- Tokens: symbols, both sides. Conditions: the place lies in the text. -/
import Derived.Test.YtigdciegnpejoaaDoorTokO
import Derived.Test.YtigdciegnpejoaaDoorShelf
import Derived.Lib.Strings
import Derived.Lib.Slices
import Derived.Lib.Walk
import Derived.Lib.Bytealg
namespace Go.Proofs.YtigdciegnpejoaaDoor
set_option maxRecDepth 100000
open Go.RowKit
set_option linter.unusedVariables false

/-- How long the symbol at the head of a text is; 0: there is none. -/
def symK (l : List UInt8) : Nat := match l with
  | [] => 0
  | b :: r => if b = 61 then (if r.head? = some 61 then 2 else 0) else if symB.contains b then 1 else 0
theorem tokN_sym {b : UInt8} {r : List UInt8} {at_ : Nat} (hl : low b = false) (hd : dig b = false) : tokN (b :: r) at_ = if symK (b :: r) = 0 then none else some (⟨3, 0, at_, ⟨((b :: r).take (symK (b :: r))).toArray⟩⟩, symK (b :: r)) := by
  unfold tokN symK
  simp only [hl, hd, Bool.false_eq_true, if_false]
  by_cases h : b = 61
  · subst h
    cases r with
    | nil => rfl
    | cons c r =>
      by_cases hc : c = 61
      · subst hc; rfl
      · have : ¬ (c :: r).head? = some 61 := by simpa using hc
        simp [hc]
  · by_cases hs : symB.contains b = true
    · have hs' : b ∈ symB := by simpa using hs
      simp [h, hs']
    · have hs' : ¬ b ∈ symB := by simpa using hs
      simp [h, hs']
theorem u8_eq (b : UInt8) (n : Nat) (hn : n < 256) : b = UInt8.ofNat n ↔ (b.toNat : Int) = n := by
  constructor
  · rintro rfl
    simp [UInt8.toNat_ofNat']
    omega
  · intro h
    apply UInt8.toNat_inj.1
    rw [UInt8.toNat_ofNat']
    omega
theorem symB_iff (b : UInt8) : symB.contains b = true ↔ (b.toNat : Int) = 40 ∨ (b.toNat : Int) = 41 ∨ (b.toNat : Int) = 123 ∨ (b.toNat : Int) = 125 ∨ (b.toNat : Int) = 44 ∨ (b.toNat : Int) = 46 ∨ (b.toNat : Int) = 36 ∨ (b.toNat : Int) = 43 ∨ (b.toNat : Int) = 45 ∨ (b.toNat : Int) = 42 ∨ (b.toNat : Int) = 60 ∨ (b.toNat : Int) = 124 ∨ (b.toNat : Int) = 38 ∨ (b.toNat : Int) = 92 := by
  have e := fun n hn => u8_eq b n hn
  rw [List.contains_iff_mem]
  show b ∈ [(UInt8.ofNat 40), UInt8.ofNat 41, UInt8.ofNat 123, UInt8.ofNat 125, UInt8.ofNat 44, UInt8.ofNat 46, UInt8.ofNat 36, UInt8.ofNat 43, UInt8.ofNat 45, UInt8.ofNat 42, UInt8.ofNat 60, UInt8.ofNat 124, UInt8.ofNat 38, UInt8.ofNat 92] ↔ _
  simp only [List.mem_cons, List.not_mem_nil, or_false]
  rw [e 40 (by decide), e 41 (by decide), e 123 (by decide), e 125 (by decide), e 44 (by decide), e 46 (by decide), e 36 (by decide), e 43 (by decide), e 45 (by decide), e 42 (by decide), e 60 (by decide), e 124 (by decide), e 38 (by decide), e 92 (by decide)]
  rfl
theorem eq61_iff (b : UInt8) : b = 61 ↔ (b.toNat : Int) = 61 := u8_eq b 61 (by decide)
theorem symK_at {s : ByteArray} {a : Nat} (ha : a < s.size) : symK (s.data.toList.drop a) = if s[a] = 61 then (if h : a + 1 < s.size then (if s[a + 1] = 61 then 2 else 0) else 0) else if symB.contains s[a] then 1 else 0 := by
  rw [drop_at ha]
  unfold symK
  simp only
  congr 1
  by_cases h : a + 1 < s.size
  · rw [drop_at h]
    simp [h]
  · have : s.data.toList.drop (a + 1) = [] := List.drop_eq_nil_of_le (by rw [Array.length_toList]; show s.size ≤ a + 1; omega)
    rw [this]
    simp [h]
theorem indexByte_mem : ∀ (l : List UInt8) (c : UInt8), 0 ≤ Lib.indexByte l c ↔ c ∈ l
  | [], c => by simp [Lib.indexByte]
  | b :: l, c => by
    have ih := indexByte_mem l c
    have hg := Lib.indexByte_ge l c
    unfold Lib.indexByte
    by_cases h : b = c
    · subst h; simp
    · have h' : (b == c) = false := by simpa using h
      rw [h']
      simp only [Bool.false_eq_true, if_false, List.mem_cons]
      by_cases hm : Lib.indexByte l c = -1
      · have : ¬ c ∈ l := fun hc => by have := ih.2 hc; omega
        simp [hm, this, Ne.symm h]
      · have hm' : (Lib.indexByte l c == -1) = false := by simpa using hm
        have : c ∈ l := ih.1 (by omega)
        rw [hm']
        simp only [Bool.false_eq_true, if_false, this, or_true, iff_true]
        omega
set_option maxHeartbeats 1000000 in
theorem t_HasPrefix (s p : ByteArray) (w : World) :
    Calls Tryd.prog 78 #[.string s, .string p] w fun e w' => e = .returned (.bool (Lib.hasPrefix s.data.toList p.data.toList)) ∧ w' = w := by
  rw [← Lib.hasPrefix_of_take, ← Lib.size_eq, ← Lib.size_eq]
  go_enter Tryd.func78, Tryd.ntmps78
  go_wp2
  · rename_i h
    go_ret
    refine ⟨?_, rfl⟩
    show Ending.returned (Value.bool ((s.extract 0 p.size).toList == p.toList)) = _
    rw [Lib.extract_toList, Lib.toList_data]
    simp [h]
  · rename_i h
    go_ret
    refine ⟨?_, rfl⟩
    show Ending.returned (Value.bool false) = _
    simp [h]
set_option maxRecDepth 100000 in
set_option maxHeartbeats 2000000 in
theorem s_l5Symbol (s : ByteArray) (hs : s.size ≤ 1048576) (a : Nat) (ha : a < s.size) (w : World) :
    Calls Tryd.prog 76 #[.string s, .int .i64 a] w fun e w' => e = .returned (.int .i64 (symK (s.data.toList.drop a))) ∧ w = w' := by
  have Hk := hide (symK_at ha)
  have ha0 : (0 : Int) ≤ (a : Int) := by omega
  have ha1 : (a : Int) < (s.size : Int) := by omega
  have H1 := hide (symB_iff s[a])
  have H2 := hide (eq61_iff s[a])
  go_enter Tryd.func76, Tryd.ntmps76
  go_wp2
  all_goals
    go_ret
    refine ⟨ret_int ?_, rfl⟩
    rw [Hk.out]
    have h1 := H1.out
    have h2 := H2.out
    have h3 : ∀ h : a + 1 < s.size, s[a + 1] = 61 ↔ (s[a + 1].toNat : Int) = 61 := fun h => eq61_iff _
    simp only [beq_iff_eq, beq_eq_false_iff_ne, ne_eq] at *
    by_cases e1 : s[a] = 61
    · have e1' := h2.1 e1
      rw [if_pos e1]
      split
      · rename_i hz
        have h4 := h3 hz
        split
        · rename_i e4
          have := h4.1 e4
          first | rfl | omega
        · rename_i e4
          have : ¬ (s[a + 1].toNat : Int) = 61 := fun q => e4 (h4.2 q)
          first | rfl | omega
      · first | rfl | omega
    · have e1' : ¬ (s[a].toNat : Int) = 61 := fun q => e1 (h2.2 q)
      rw [if_neg e1]
      split
      · rename_i e2
        have := h1.1 e2
        first | rfl | omega
      · rename_i e2
        have hno : ¬ _ := fun q => e2 (h1.2 q)
        first | rfl | omega
set_option maxRecDepth 100000 in
set_option maxHeartbeats 2000000 in
theorem s_tok_sym (s : ByteArray) (hs : s.size ≤ 1048576) (a : Nat) (ha : a < s.size) (hl : low s[a] = false) (hd : dig s[a] = false) (w : World) :
    Calls Tryd.prog 51 #[.string s, .int .i64 a] w fun en w' => TokS (tokN (s.data.toList.drop a) a) en ∧ Below w.heap.size w w' := by
  have hk2 : symK (s.data.toList.drop a) ≤ s.size - a := by
    rw [symK_at ha]
    split
    · split
      · split <;> omega
      · omega
    · split <;> omega
  have Hr : Hid (tokN (s.data.toList.drop a) a = if symK (s.data.toList.drop a) = 0 then none else some (⟨3, 0, a, s.extract a (a + symK (s.data.toList.drop a))⟩, symK (s.data.toList.drop a))) := hide (by
    rw [ext_take, drop_at ha]
    exact tokN_sym hl hd)
  have Hc := hide (s_l5Symbol s hs a ha)
  have ha0 : (0 : Int) ≤ (a : Int) := by omega
  have ha1 : (a : Int) < (s.size : Int) := by omega
  generalize symK (s.data.toList.drop a) = k at Hr Hc hk2
  have hk3 : (a : Int) + (k : Int) ≤ (s.size : Int) := by omega
  have hk4 : (0 : Int) ≤ (k : Int) := by omega
  go_enter Tryd.func51, Tryd.ntmps51
  go_wp2_with (first
    | (go_at_call 73; refine (s_l5Letter _ _).mono ?_; rintro e w' ⟨rfl, rfl⟩; rw [hl])
    | (go_at_call 74; refine (s_l5Digit _ _).mono ?_; rintro e w' ⟨rfl, rfl⟩; rw [hd])
    | (go_at_call 76; refine (Hc.out _).mono ?_; rintro e w' ⟨rfl, rfl⟩))
  refine bodyPost_ret (v := .tuple #[.agg #[.int .i64 3, .int .i64 0, .int .i64 a, .string (s.extract a (a + k))], .int .i64 k]) (by simp [results, Tryd.results51, go_sem]; try omega) rfl ⟨?_, by first | exact Below.refl _ _ | exact (Below.refl _ _).alloc (Nat.le_refl _) _ | exact ((Below.refl _ _).alloc (Nat.le_refl _) _).alloc (by simp) _⟩
  rw [Hr.out]
  split
  · rename_i h0
    subst h0
    exact ⟨_, _, _, _, rfl⟩
  · rfl
theorem ext_drop {s : ByteArray} {a : Nat} : (s.extract a s.size).data.toList = s.data.toList.drop a := by
  have h := ext_take s a (s.size - a)
  by_cases ha : a ≤ s.size
  · rw [show a + (s.size - a) = s.size by omega] at h
    rw [h]
    show List.take (s.size - a) (List.drop a s.data.toList) = _
    apply List.take_of_length_le
    rw [List.length_drop, Array.length_toList]
    exact Nat.le_refl _
  · have e1 : s.data.toList.drop a = [] := List.drop_eq_nil_of_le (by rw [Array.length_toList]; show s.size ≤ a; omega)
    rw [e1]
    have : (s.extract a s.size).size = 0 := by rw [ByteArray.size_extract]; omega
    have h2 : (s.extract a s.size).data.toList.length = 0 := by rw [Array.length_toList]; exact this
    exact List.length_eq_zero_iff.1 h2
theorem tok_sym_i {s : ByteArray} {a : Nat} (ha : a < s.size) (hl : low s[a] = false) (hd : dig s[a] = false) {hp : Bool} {q : Int} (Hp : Lib.hasPrefix (s.extract a s.size).data.toList (⟨#[61, 61]⟩ : ByteArray).data.toList = hp)
    (Hq : Lib.indexByte (⟨#[40, 41, 123, 125, 44, 46, 36, 43, 45, 42, 60, 124, 38, 92]⟩ : ByteArray).data.toList ((s[a].toNat : Int)).toNat.toUInt8 = q) :
    tokN (s.data.toList.drop a) a = if hp = true then some (⟨3, 0, a, ⟨#[61, 61]⟩⟩, 2) else if 0 ≤ q then some (⟨3, 0, a, s.extract a (a + 1)⟩, 1) else none := by
  subst Hp Hq
  have hm := indexByte_mem symB s[a]
  have e8 : ((s[a].toNat : Int)).toNat.toUInt8 = s[a] := by simp
  rw [e8, ext_drop]
  show _ = if _ then _ else if 0 ≤ Lib.indexByte symB s[a] then _ else _
  have e1 : s.extract a (a + 1) = ⟨#[s[a]]⟩ := by rw [ext_take, drop_at ha]; rfl
  rw [e1]
  rw [drop_at ha]
  unfold tokN
  simp only [hl, hd, Bool.false_eq_true, if_false]
  generalize s[a] = b at hm ⊢
  generalize List.drop (a + 1) s.data.toList = r
  by_cases h : b = 61
  · subst h
    have hn : ¬ 0 ≤ Lib.indexByte symB 61 := fun h => absurd (hm.1 h) (by decide)
    rw [if_neg hn]
    cases r with
    | nil => rfl
    | cons c r =>
      by_cases hc : c = 61
      · subst hc; rfl
      · have h1 : ¬ (c :: r).head? = some 61 := by simpa using hc
        have h2 : Lib.hasPrefix (61 :: c :: r) ([61, 61] : List UInt8) = false := by
          have : (61 == c) = false := by simpa using fun q => hc q.symm
          simp [Lib.hasPrefix, List.isPrefixOf, this]
        show (if (61 : UInt8) = 61 then (if (c :: r).head? = some 61 then _ else none) else _) = if Lib.hasPrefix (61 :: c :: r) ([61, 61] : List UInt8) = true then _ else none
        rw [if_pos rfl, if_neg h1, h2]
        rfl
  · have h2 : Lib.hasPrefix (b :: r) ([61, 61] : List UInt8) = false := by
      have : (61 == b) = false := by simpa using fun q => h q.symm
      simp [Lib.hasPrefix, List.isPrefixOf, this]
    show _ = if Lib.hasPrefix (b :: r) ([61, 61] : List UInt8) = true then _ else _
    rw [if_neg h, h2]
    simp only [Bool.false_eq_true, if_false, List.contains_iff_mem]
    by_cases hb : b ∈ symB
    · rw [if_pos hb, if_pos (hm.2 hb)]
    · rw [if_neg hb, if_neg (fun q => hb (hm.1 q))]
set_option maxRecDepth 100000 in
set_option maxHeartbeats 2000000 in
theorem i_tok_sym (s : ByteArray) (hs : s.size ≤ 1048576) (a : Nat) (ha : a < s.size) (hl : low s[a] = false) (hd : dig s[a] = false) (w : World) :
    Calls Tryd.prog 52 #[.string s, .int .i64 a] w fun en w' => en = .returned (tokV (tokN (s.data.toList.drop a) a)) ∧ Below w.heap.size w w' := by
  have ha0 : (0 : Int) ≤ (a : Int) := by omega
  have ha1 : (a : Int) < (s.size : Int) := by omega
  obtain ⟨hp, Hp⟩ : ∃ b, Hid (Lib.hasPrefix (s.extract a s.size).data.toList (⟨#[61, 61]⟩ : ByteArray).data.toList = b) := ⟨_, hide rfl⟩
  obtain ⟨q, Hq⟩ : ∃ q, Hid (Lib.indexByte (⟨#[40, 41, 123, 125, 44, 46, 36, 43, 45, 42, 60, 124, 38, 92]⟩ : ByteArray).data.toList ((s[a].toNat : Int)).toNat.toUInt8 = q) := ⟨_, hide rfl⟩
  cases hp
  · by_cases hq : 0 ≤ q
    · have Hr := hide (show tokN (s.data.toList.drop a) a = some (⟨3, 0, a, s.extract a (a + 1)⟩, 1) by rw [tok_sym_i ha hl hd Hp.out Hq.out, if_neg (by decide), if_pos hq])
      go_enter Tryd.func52, Tryd.ntmps52
      go_wp2_with (first
        | (go_at_call 68; refine (i_isLower _ _).mono ?_; rintro e w' ⟨rfl, rfl⟩; rw [hl])
        | (go_at_call 69; refine (i_isDigit _ _).mono ?_; rintro e w' ⟨rfl, rfl⟩; rw [hd])
        | (go_at_call 78; refine (t_HasPrefix _ _ _).mono ?_; rintro e w' ⟨rfl, rfl⟩; rw [Hp.out])
        | (go_at_call 79; refine (Tryd.strings_IndexByte _ _ _).mono ?_; rintro e w' ⟨rfl, rfl⟩; rw [Hq.out]))
      exact bodyPost_ret (v := .tuple #[.agg #[.int .i64 3, .int .i64 0, .int .i64 a, .string (s.extract a (a + 1))], .int .i64 1]) (by simp [results, Tryd.results52, go_sem]; try omega) rfl ⟨by rw [Hr.out]; rfl, by first | exact Below.refl _ _ | exact (Below.refl _ _).alloc (Nat.le_refl _) _⟩
    · have Hr := hide (show tokN (s.data.toList.drop a) a = none by rw [tok_sym_i ha hl hd Hp.out Hq.out, if_neg (by decide), if_neg hq])
      go_enter Tryd.func52, Tryd.ntmps52
      go_wp2_with (first
        | (go_at_call 68; refine (i_isLower _ _).mono ?_; rintro e w' ⟨rfl, rfl⟩; rw [hl])
        | (go_at_call 69; refine (i_isDigit _ _).mono ?_; rintro e w' ⟨rfl, rfl⟩; rw [hd])
        | (go_at_call 78; refine (t_HasPrefix _ _ _).mono ?_; rintro e w' ⟨rfl, rfl⟩; rw [Hp.out])
        | (go_at_call 79; refine (Tryd.strings_IndexByte _ _ _).mono ?_; rintro e w' ⟨rfl, rfl⟩; rw [Hq.out]))
      exact bodyPost_ret (v := .tuple #[.agg #[.int .i64 0, .int .i64 0, .int .i64 0, .string ⟨#[]⟩], .int .i64 0]) (by simp [results, Tryd.results52, go_sem]; try omega) rfl ⟨by rw [Hr.out]; rfl, by first | exact Below.refl _ _ | exact (Below.refl _ _).alloc (Nat.le_refl _) _⟩
  · have Hr := hide (show tokN (s.data.toList.drop a) a = some (⟨3, 0, a, ⟨#[61, 61]⟩⟩, 2) by rw [tok_sym_i ha hl hd Hp.out Hq.out, if_pos rfl])
    go_enter Tryd.func52, Tryd.ntmps52
    go_wp2_with (first
      | (go_at_call 68; refine (i_isLower _ _).mono ?_; rintro e w' ⟨rfl, rfl⟩; rw [hl])
      | (go_at_call 69; refine (i_isDigit _ _).mono ?_; rintro e w' ⟨rfl, rfl⟩; rw [hd])
      | (go_at_call 78; refine (t_HasPrefix _ _ _).mono ?_; rintro e w' ⟨rfl, rfl⟩; rw [Hp.out])
      | (go_at_call 79; refine (Tryd.strings_IndexByte _ _ _).mono ?_; rintro e w' ⟨rfl, rfl⟩; rw [Hq.out]))
    exact bodyPost_ret (v := .tuple #[.agg #[.int .i64 3, .int .i64 0, .int .i64 a, .string ⟨#[61, 61]⟩], .int .i64 2]) (by simp [results, Tryd.results52, go_sem]; try omega) rfl ⟨by rw [Hr.out]; rfl, by first | exact Below.refl _ _ | exact (Below.refl _ _).alloc (Nat.le_refl _) _⟩
/-- The token at a place: the program's. -/
theorem i_tokenAt (s : ByteArray) (hs : s.size ≤ 1048576) (a : Nat) (ha : a < s.size) (w : World) (hW : NumW w) :
    Calls Tryd.prog 52 #[.string s, .int .i64 a] w fun en w' => en = .returned (tokV (tokN (s.data.toList.drop a) a)) ∧ Below w.heap.size w w' := by
  cases hl : low s[a]
  · cases hd : dig s[a]
    · exact i_tok_sym s hs a ha hl hd w
    · exact i_tok_num s hs a ha hl hd w hW
  · exact i_tok_name s hs a ha hl w
/-- The token at a place: the reference's. -/
theorem s_l5Next (s : ByteArray) (hs : s.size ≤ 1048576) (a : Nat) (ha : a < s.size) (w : World) :
    Calls Tryd.prog 51 #[.string s, .int .i64 a] w fun en w' => TokS (tokN (s.data.toList.drop a) a) en ∧ Below w.heap.size w w' := by
  cases hl : low s[a]
  · cases hd : dig s[a]
    · exact s_tok_sym s hs a ha hl hd w
    · exact s_tok_num s hs a ha hl hd w
  · exact s_tok_name s hs a ha hl w
end Go.Proofs.YtigdciegnpejoaaDoor
