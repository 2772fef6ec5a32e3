/- Tokens: the tokens of a list's text are the list, at other places. Plain: no program. -/
import Derived.Test.YtigdciegnpejoaaDoorTokC
import Derived.Test.YtigdciegnpejoaaDoorTokQ
import Derived.Test.YtigdciegnpejoaaDoorFmtK
namespace Go.Proofs.YtigdciegnpejoaaDoor
set_option maxRecDepth 100000
open Go.RowKit Go.Lib
set_option linter.unusedVariables false

/-- A token as the reader gives one. -/
def goodT (t : Tkn) : Prop :=
  (t.kind = 1 ∧ t.n = 0 ∧ (∃ b r, t.text.data.toList = b :: r ∧ low b = true) ∧ (∀ b ∈ t.text.data.toList, ldg b = true) ∧ t.text.size ≤ 8) ∨
  (t.kind = 2 ∧ 0 ≤ t.n ∧ t.n ≤ 1000000 ∧ t.text = ⟨#[]⟩) ∨
  (t.kind = 3 ∧ t.n = 0 ∧ (t.text = ⟨#[61, 61]⟩ ∨ ∃ b, b ∈ symB ∧ t.text = ⟨#[b]⟩))
theorem span_take_all {p : UInt8 → Bool} (l : List UInt8) : ∀ b ∈ l.take (spanL p l), p b = true := by
  unfold spanL
  induction l with
  | nil => intro b hb; simp at hb
  | cons a l ih =>
    intro b hb
    cases ha : p a
    · simp [List.takeWhile, ha] at hb
    · simp only [List.takeWhile, ha, List.length_cons, List.take_succ_cons] at hb
      rcases List.mem_cons.1 hb with rfl | hb
      · exact ha
      · exact ih b hb
theorem tokN_good {l : List UInt8} {a k : Nat} {t : Tkn} (h : tokN l a = some (t, k)) : goodT t ∧ t.off = a := by
  cases l with
  | nil => cases h
  | cons b r =>
    unfold tokN at h
    simp only at h
    split at h
    · rename_i hb
      split at h
      · cases h
      · rename_i hk
        injection h with h
        injection h with h _
        subst h
        have hs := span_take_all (p := ldg) (b :: r)
        have hp := span_pos (p := ldg) (b := b) (r := r) (low_ldg hb)
        refine ⟨.inl ⟨rfl, rfl, ?_, hs, ?_⟩, rfl⟩
        · obtain ⟨k, hk⟩ : ∃ k, spanL ldg (b :: r) = k + 1 := ⟨spanL ldg (b :: r) - 1, by omega⟩
          show ∃ c q, List.take (spanL ldg (b :: r)) (b :: r) = c :: q ∧ low c = true
          rw [hk]
          exact ⟨b, _, rfl, hb⟩
        · show (List.take (spanL ldg (b :: r)) (b :: r)).toArray.size ≤ 8
          rw [List.size_toArray, List.length_take]
          omega
    · split at h
      · split at h
        · rename_i n hn
          injection h with h
          injection h with h _
          subst h
          obtain ⟨_, g1, g2⟩ := numIn_iff.1 hn
          exact ⟨.inr (.inl ⟨rfl, g1, g2, rfl⟩), rfl⟩
        · cases h
      · split at h
        · split at h
          · injection h with h
            injection h with h _
            subst h
            exact ⟨.inr (.inr ⟨rfl, rfl, .inl rfl⟩), rfl⟩
          · cases h
        · split at h
          · rename_i hs
            injection h with h
            injection h with h _
            subst h
            exact ⟨.inr (.inr ⟨rfl, rfl, .inr ⟨b, by simpa using hs, rfl⟩⟩), rfl⟩
          · cases h
theorem span_app {p : UInt8 → Bool} {l r : List UInt8} (h : ∀ b ∈ l, p b = true) (hr : ∀ b q, r = b :: q → p b = false) : spanL p (l ++ r) = l.length := by
  induction l with
  | nil =>
    cases r with
    | nil => rfl
    | cons b q => simp [spanL, List.takeWhile, hr b q rfl]
  | cons a l ih =>
    have h1 := h a (by simp)
    have h2 := ih fun b hb => h b (by simp [hb])
    unfold spanL at h2 ⊢
    simp [List.takeWhile, h1, h2]
theorem itoa_digs {n : Int} (h : 0 ≤ n) : (∀ b ∈ itoa n, dig b = true) ∧ itoa n ≠ [] := by
  have e : itoa n = decDigits n.toNat := by unfold itoa; rw [if_neg (by omega)]
  rw [e]
  refine ⟨?_, decDigits_ne _⟩
  generalize n.toNat = u
  induction u using Nat.strongRecOn with
  | _ u ih =>
    intro b hb
    rw [decDigits] at hb
    split at hb
    · rw [List.mem_singleton.1 hb]
      have e : (UInt8.ofNat (48 + u)).toNat = 48 + u := by simp [UInt8.toNat_ofNat']; omega
      unfold dig
      rw [e]
      simp
      omega
    · rcases List.mem_append.1 hb with hb | hb
      · exact ih (u / 10) (by omega) b hb
      · rw [List.mem_singleton.1 hb]
        have e : (UInt8.ofNat (48 + u % 10)).toNat = 48 + u % 10 := by simp [UInt8.toNat_ofNat']; omega
        unfold dig
        rw [e]
        simp
        omega
theorem ends_no {p : UInt8 → Bool} (hp : p 32 = false) {r : List UInt8} (h : r = [] ∨ ∃ q, r = 32 :: q) : ∀ b q, r = b :: q → p b = false := by
  intro b q e
  rcases h with rfl | ⟨q', rfl⟩
  · cases e
  · injection e with e _
    subst e
    exact hp
/-- A token is read where its text stands, ahead of the end or of a blank. -/
theorem tokN_back {t : Tkn} (h : goodT t) {r : List UInt8} (hr : r = [] ∨ ∃ q, r = 32 :: q) (a : Nat) : tokN ((tokB t).data.toList ++ r) a = some (⟨t.kind, t.n, a, t.text⟩, (tokB t).size) := by
  obtain ⟨kind, n, off, text⟩ := t
  rcases h with ⟨h1, h2, ⟨b, q, hb, hl⟩, h4, h5⟩ | ⟨h1, h2, h3, h4⟩ | ⟨h1, h2, h3⟩
  · simp only at h1 h2 hb h4 h5
    subst h1 h2
    have e : tokB ⟨1, 0, off, text⟩ = text := by unfold tokB; simp
    rw [e]
    have hs := span_app h4 (ends_no (p := ldg) (by decide) hr)
    have hz : text.data.toList.length = text.size := by rw [Array.length_toList]; rfl
    have ht : (⟨(List.take text.data.toList.length (text.data.toList ++ r)).toArray⟩ : ByteArray) = text := by
      rw [List.take_left' rfl]
    rw [hb] at hs ht hz ⊢
    show tokN (b :: (q ++ r)) a = _
    unfold tokN
    simp only [hl, if_true]
    have hs' : spanL ldg (b :: (q ++ r)) = (b :: q).length := hs
    rw [hs', if_neg (by rw [hz]; omega)]
    have ht' : (⟨(List.take (b :: q).length (b :: (q ++ r))).toArray⟩ : ByteArray) = text := ht
    rw [ht', hz]
  · simp only at h1 h2 h3 h4
    subst h1 h4
    have e : tokB ⟨2, n, off, ⟨#[]⟩⟩ = num n := by unfold tokB; simp
    rw [e]
    obtain ⟨hd, hne⟩ := itoa_digs h2
    have e2 : (num n).data.toList = itoa n := by unfold num; simp
    have e3 : (num n).size = (itoa n).length := by unfold num; simp [ByteArray.size]
    rw [e2, e3]
    have hs := span_app hd (ends_no (p := dig) (by decide) hr)
    have ht : List.take (itoa n).length (itoa n ++ r) = itoa n := List.take_left' rfl
    cases hi : itoa n with
    | nil => exact absurd hi hne
    | cons b q =>
      have hdb := hd b (by rw [hi]; simp)
      have hlb : low b = false := by
        revert hdb
        unfold low dig
        simp
        omega
      rw [hi] at hs ht
      show tokN (b :: (q ++ r)) a = _
      unfold tokN
      simp only [hlb, hdb, Bool.false_eq_true, if_false, if_true]
      have hs' : spanL dig (b :: (q ++ r)) = (b :: q).length := hs
      have ht' : List.take (b :: q).length (b :: (q ++ r)) = b :: q := ht
      rw [hs', ht', numIn_iff.2 ⟨hi, h2, h3⟩]
  · simp only at h1 h2 h3
    subst h1 h2
    have e : tokB ⟨3, 0, off, text⟩ = text := by unfold tokB; simp
    rw [e]
    rcases h3 with rfl | ⟨b, hb, rfl⟩
    · rfl
    · have hb' : low b = false ∧ dig b = false ∧ b ≠ 61 := by
        revert hb
        have : ∀ c ∈ symB, low c = false ∧ dig c = false ∧ c ≠ 61 := by decide
        exact this b
      have hc : symB.contains b = true := by simpa using hb
      show tokN (b :: r) a = _
      unfold tokN
      simp only [hb'.1, hb'.2.1, hb'.2.2, hc, Bool.false_eq_true, if_false, if_true]
      rfl
theorem tokB_head {t : Tkn} (h : goodT t) : ∃ b q, (tokB t).data.toList = b :: q ∧ b ≠ 32 := by
  have hb := tokN_back h (r := []) (.inl rfl) 0
  rw [List.append_nil] at hb
  cases hl : (tokB t).data.toList with
  | nil => rw [hl] at hb; cases hb
  | cons b q =>
    refine ⟨b, q, rfl, ?_⟩
    rintro rfl
    rw [hl] at hb
    unfold tokN at hb
    simp only at hb
    rw [if_neg (by decide), if_neg (by decide), if_neg (by decide), if_neg (by decide)] at hb
    cases hb
/-- The tokens at the places at which their texts stand in a row. -/
def relT : List Tkn → Nat → List Tkn
  | [], _ => []
  | t :: r, a => ⟨t.kind, t.n, a, t.text⟩ :: relT r (a + (tokB t).size + 1)
theorem relT_len : ∀ (L : List Tkn) (a : Nat), (relT L a).length = L.length
  | [], _ => rfl
  | t :: r, a => by simp only [relT, List.length_cons, relT_len r]
theorem relT_at : ∀ {L : List Tkn} {a i : Nat} {t : Tkn}, L[i]? = some t → ∃ o : Nat, (relT L a)[i]? = some ⟨t.kind, t.n, o, t.text⟩
  | [], _, _, _, h => by cases h
  | x :: r, a, 0, t, h => by
    obtain rfl := Option.some.inj h
    exact ⟨a, rfl⟩
  | x :: r, a, i + 1, t, h => relT_at (L := r) h
theorem joinL_cons (x y : ByteArray) (r : List ByteArray) : joinL (x :: y :: r) sp1 = x.data.toList ++ 32 :: joinL (y :: r) sp1 := by
  show Lib.join (x.data.toList :: y.data.toList :: r.map (·.data.toList)) [32] = _
  simp [Lib.join, joinL, sp1]
theorem joinL_one (x : ByteArray) : joinL [x] sp1 = x.data.toList := by
  show Lib.join [x.data.toList] [32] = _
  simp [Lib.join_one]
theorem tokR_step {b : UInt8} {q : List UInt8} {a k n : Nat} {t : Tkn} {out : List Tkn} (hb : b ≠ 32) (h : tokN (b :: q) a = some (t, k)) (ho : out.length ≠ 80) : tokR (n + 1) (b :: q) a out = tokR n ((b :: q).drop k) (a + k) (out ++ [t]) := by
  simp [tokR, hb, h, ho]
theorem tokR_join : ∀ (L : List Tkn) (n a : Nat) (out : List Tkn), (∀ t ∈ L, goodT t) → out.length + L.length ≤ 80 → (joinL (L.map tokB) sp1).length ≤ n → tokR n (joinL (L.map tokB) sp1) a out = (out ++ relT L a, -1)
  | [], n, a, out, _, _, _ => by
    show tokR n [] a out = _
    rw [tokR_nil]
    simp [relT]
  | [t], n, a, out, hg, hl, hn => by
    have ht := hg t (by simp)
    have hj : joinL ([t].map tokB) sp1 = (tokB t).data.toList := joinL_one _
    rw [hj] at hn ⊢
    obtain ⟨b, q, hb, hb2⟩ := tokB_head ht
    have hk := tokN_back ht (r := []) (.inl rfl) a
    have hz : (tokB t).data.toList.length = (tokB t).size := by rw [Array.length_toList]; rfl
    rw [List.append_nil] at hk
    rw [hb] at hk hn hz ⊢
    obtain ⟨m, rfl⟩ : ∃ m, n = m + 1 := ⟨n - 1, by simp only [List.length_cons] at hn; omega⟩
    rw [tokR_step hb2 hk (by simp only [List.length_cons, List.length_nil] at hl; omega), List.drop_eq_nil_of_le (by omega), tokR_nil]
    rfl
  | t :: u :: r, n, a, out, hg, hl, hn => by
    have ht := hg t (by simp)
    have hj : joinL ((t :: u :: r).map tokB) sp1 = (tokB t).data.toList ++ 32 :: joinL ((u :: r).map tokB) sp1 := joinL_cons _ _ _
    rw [hj] at hn ⊢
    obtain ⟨b, q, hb, hb2⟩ := tokB_head ht
    have hk := tokN_back ht (r := 32 :: joinL ((u :: r).map tokB) sp1) (.inr ⟨_, rfl⟩) a
    have hz : (tokB t).data.toList.length = (tokB t).size := by rw [Array.length_toList]; rfl
    have hd : ((tokB t).data.toList ++ 32 :: joinL ((u :: r).map tokB) sp1).drop (tokB t).size = 32 :: joinL ((u :: r).map tokB) sp1 := List.drop_left' hz
    rw [List.length_append, List.length_cons, hz] at hn
    rw [hb] at hk hd ⊢
    rw [List.cons_append] at hk hd ⊢
    have hz1 : 1 ≤ (tokB t).size := by rw [← hz, hb]; simp
    obtain ⟨m, rfl⟩ : ∃ m, n = m + 2 := ⟨n - 2, by omega⟩
    rw [tokR_step hb2 hk (by simp only [List.length_cons] at hl; omega), hd]
    have hsp : tokR (m + 1) (32 :: joinL ((u :: r).map tokB) sp1) (a + (tokB t).size) (out ++ [⟨t.kind, t.n, a, t.text⟩]) = tokR m (joinL ((u :: r).map tokB) sp1) (a + (tokB t).size + 1) (out ++ [⟨t.kind, t.n, a, t.text⟩]) := by simp [tokR]
    rw [hsp, tokR_join (u :: r) m _ _ (fun x hx => hg x (by simp only [List.mem_cons] at hx ⊢; exact .inr hx)) (by simp only [List.length_append, List.length_cons, List.length_nil] at hl ⊢; omega) (by omega)]
    simp [relT]
/-- The tokens of the text of good tokens. -/
theorem toks_back {L : List Tkn} (hg : ∀ t ∈ L, goodT t) (hl : L.length ≤ 80) (hz : ¬ 160 < (fmtToks L).size) : toksOf (fmtToks L) = (relT L 0, -1) := by
  unfold toksOf
  rw [if_neg hz]
  have e : (fmtToks L).data.toList = joinL (L.map tokB) sp1 := by unfold fmtToks; simp
  have e2 : (fmtToks L).size = (joinL (L.map tokB) sp1).length := by unfold fmtToks; simp [ByteArray.size]
  rw [e, tokR_join L _ 0 [] hg (by simpa using hl) (by rw [e2]; exact Nat.le_refl _)]
  rfl
theorem tokR_all : ∀ (n : Nat) (l : List UInt8) (a : Nat) (out : List Tkn) (B : Nat), (∀ t ∈ out, goodT t ∧ 0 ≤ t.off ∧ t.off < B) → a + l.length ≤ B → ∀ t ∈ (tokR n l a out).1, goodT t ∧ 0 ≤ t.off ∧ t.off < B
  | 0, _, _, out, B, h, _ => h
  | n + 1, [], _, out, B, h, _ => h
  | n + 1, b :: r, a, out, B, h, hl => by
    simp only [List.length_cons] at hl
    unfold tokR
    simp only
    split
    · exact tokR_all n r (a + 1) out B h (by omega)
    · split
      · intro t ht; cases ht
      · rename_i t k ht
        have hg := tokN_good ht
        have hk := tokN_len ht
        simp only [List.length_cons] at hk
        split
        · intro t ht; cases ht
        · refine tokR_all n _ _ _ B ?_ (by rw [List.length_drop]; simp only [List.length_cons]; omega)
          intro x hx
          rcases List.mem_append.1 hx with hx | hx
          · exact h x hx
          · rw [List.mem_singleton.1 hx]
            exact ⟨hg.1, by rw [hg.2]; omega, by rw [hg.2]; omega⟩
theorem toks_all (s : ByteArray) : ∀ t ∈ (toksOf s).1, goodT t ∧ 0 ≤ t.off ∧ t.off < s.size := by
  unfold toksOf
  split
  · intro t ht; cases ht
  · refine tokR_all _ _ _ _ s.size (fun t ht => by cases ht) ?_
    rw [Array.length_toList]
    show 0 + s.size ≤ s.size
    omega
theorem tokR_bad : ∀ (n : Nat) (l : List UInt8) (a : Nat) (out : List Tkn), 0 ≤ (tokR n l a out).2 → (tokR n l a out).1 = []
  | 0, _, _, out, h => absurd h (by show ¬ (0 : Int) ≤ -1; omega)
  | n + 1, [], _, out, h => absurd h (by show ¬ (0 : Int) ≤ -1; omega)
  | n + 1, b :: r, a, out, h => by
    unfold tokR at h ⊢
    simp only at h ⊢
    split at h
    · rename_i hb
      rw [if_pos hb]
      exact tokR_bad n r (a + 1) out h
    · rename_i hb
      rw [if_neg hb]
      split at h
      · rfl
      · rename_i t k ht
        split at h
        · rename_i ho
          rw [if_pos ho]
        · rename_i ho
          rw [if_neg ho]
          exact tokR_bad n _ _ _ h
theorem toks_bad {s : ByteArray} (h : 0 ≤ (toksOf s).2) : (toksOf s).1 = [] := by
  unfold toksOf at h ⊢
  split
  · rfl
  · rename_i hz
    rw [if_neg hz] at h
    exact tokR_bad _ _ _ _ h
end Go.Proofs.YtigdciegnpejoaaDoor
