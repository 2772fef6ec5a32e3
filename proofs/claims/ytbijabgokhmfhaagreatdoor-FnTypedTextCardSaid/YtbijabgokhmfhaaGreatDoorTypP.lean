/- Values read from their text: what each side reads, and that both find the value whose text it is. Plain: no program. -/
import Derived.Test.YtbijabgokhmfhaaGreatDoorFmtT
import Derived.Laws.BitsAllLaws
import Derived.Test.YtbijabgokhmfhaaGreatDoorSplit
import Derived.Test.YtbijabgokhmfhaaGreatDoorParse
import Derived.Lib.SlTrimSet
namespace Go.Proofs.YtbijabgokhmfhaaGreatDoor
set_option maxRecDepth 100000
open Go.RowKit Go.Lib
set_option linter.unusedVariables false

theorem splitT_cut {c : UInt8} : ∀ {p : List UInt8} (r : List UInt8), c ∉ p → splitL (p ++ c :: r) c = p :: splitL r c
  | [], r, _ => by
    show (if c = c then [] :: splitL r c else glue [c] (splitL r c)) = _
    rw [if_pos rfl]
  | b :: p, r, h => by
    have hb : ¬ b = c := fun e => h (by simp [e])
    have ih := splitT_cut (p := p) r (fun q => h (List.mem_cons_of_mem _ q))
    show (if b = c then [] :: splitL (p ++ c :: r) c else glue [b] (splitL (p ++ c :: r) c)) = _
    rw [if_neg hb, ih]
    rfl
theorem splitT_one {c : UInt8} : ∀ {p : List UInt8}, c ∉ p → splitL p c = [p]
  | [], _ => rfl
  | b :: p, h => by
    have hb : ¬ b = c := fun e => h (by simp [e])
    have ih := splitT_one (p := p) (fun q => h (List.mem_cons_of_mem _ q))
    show (if b = c then [] :: splitL p c else glue [b] (splitL p c)) = _
    rw [if_neg hb, ih]
    rfl
theorem splitT_row {c : UInt8} : ∀ {l : List (List UInt8)} {p : List UInt8}, c ∉ p → (∀ q ∈ l, c ∉ q) → splitL (p ++ (l.map (fun q => [c] ++ q)).flatten) c = p :: l
  | [], p, h, _ => by simp [splitT_one h]
  | q :: l, p, h, hl => by
    simp only [List.map_cons, List.flatten_cons, List.cons_append, List.nil_append]
    rw [splitT_cut _ h]
    have := splitT_row (l := l) (p := q) (hl q (by simp)) fun x hx => hl x (List.mem_cons_of_mem _ hx)
    simp only [List.cons_append, List.nil_append] at this
    rw [this]
theorem splitKT_row (c : UInt8) : ∀ (k : Nat) (s : List UInt8), (splitL s c).length ≤ k + 1 → splitK [c] 0 k s = splitL s c
  | k, s, h => by
    rcases Int.lt_or_le (index s [c]) 0 with hi | hi
    · have h1 : index s [c] = -1 := by have := index_ge s [c]; omega
      rw [splitL_miss (by rw [← index_one]; exact h1)]
      cases k with
      | zero => rfl
      | succ k => unfold splitK; rw [if_pos (by rw [h1]; rfl)]
    · obtain ⟨i, hi⟩ : ∃ i : Nat, index s [c] = i := ⟨(index s [c]).toNat, by omega⟩
      have hs := splitL_hit (c := c) (s := s) (i := i) (by rw [← index_one]; exact hi)
      have hl : 0 < (splitL (s.drop (i + 1)) c).length := List.length_pos_iff.2 (splitL_ne c _)
      rw [hs] at h ⊢
      simp only [List.length_cons] at h
      match k, h with
      | 0, h => omega
      | k + 1, h =>
        have hne : ¬ (index s [c] == -1) = true := by rw [hi]; simp
        unfold splitK
        rw [if_neg hne, hi]
        simp only [List.length_cons, List.length_nil, Nat.zero_add, Int.toNat_natCast, Nat.add_zero]
        rw [splitKT_row c k (s.drop (i + 1)) (by omega)]
theorem splitBT_row (c : UInt8) (k : Nat) (s : ByteArray) (h : (splitL s.data.toList c).length ≤ k + 1) : splitB ⟨#[c]⟩ 0 k s = splitS s c := by
  have h1 := splitB_data ⟨#[c]⟩ 0 k s
  have h2 := splitKT_row c k s.data.toList h
  unfold splitS
  rw [← h2, ← show (⟨#[c]⟩ : ByteArray).data.toList = [c] from rfl, ← h1, List.map_map]
  conv => lhs; rw [← List.map_id (splitB ⟨#[c]⟩ 0 k s)]
  apply List.map_congr_left
  intro x _
  rfl
/-! What each side reads. -/
def orW (a : Int) (x : ByteArray) : Int := match numIn x.data.toList 0 999999 with
  | some k => if k ≤ 11 then bits .or .i64 a (2 ^ k.toNat) else a
  | none => a
def setI (ws : List ByteArray) : Int := ws.foldl orW 0
def orS (ws : List ByteArray) (a : Int) (k : Nat) : Int := if hasS ws (num (k : Int)) then bits .or .i64 a (2 ^ k) else a
def setS (ws : List ByteArray) (j : Nat) : Int := (List.range j).foldl (orS ws) 0
def wordsM (T : ByteArray) : List ByteArray := splitB ⟨#[32]⟩ 0 (min 13 (T.size + 1) - 1) T
def trimB (s : ByteArray) : ByteArray := ⟨(trimS s.data.toList [123, 125]).toArray⟩
def isTrue (s : ByteArray) : Bool := s.toList == (⟨#[116, 114, 117, 101]⟩ : ByteArray).toList
def cutH (s : ByteArray) : ByteArray := ⟨(trimPrefix s.data.toList [35]).toArray⟩
def valI (s : ByteArray) (k : Int) : Int :=
  if k = 1 then (numIn s.data.toList (-999999999999) 999999999999).getD 0 else if k = 3 then (if isTrue s then 1 else 0)
  else if k = 4 then (numIn (cutH s).data.toList (-999999999999) 999999999999).getD 0 else if k = 2 then setI (wordsM (trimB s)) else 0
def valS (s : ByteArray) (k : Int) : Int :=
  if k = 1 then (numIn s.data.toList (-999999999999) 999999999999).getD 0 else if k = 3 then (if isTrue s then 1 else 0)
  else if k = 4 then (if 1 < s.size then (numIn (s.extract 1 s.size).data.toList 0 999999).getD 0 else 0)
  else if k = 2 then (if 2 < s.size then setS (splitS (s.extract 1 (s.size - 1)) 32) 12 else 0) else 0
def parseW (s : ByteArray) (k v : Int) : Int × Bool := if s.size ≠ 0 ∧ fmtTyped v k = s then (v, true) else (0, false)
def parseT (s : ByteArray) (k : Int) : Int × Bool := parseW s k (valS s k)

theorem num_data (n : Int) : (num n).data.toList = itoa n := by simp [num]
theorem itoa_inj {a b : Int} (h : itoa a = itoa b) : a = b := by
  have h1 := atoi_itoa a
  rw [h, atoi_itoa] at h1
  exact (Option.some.inj h1).symm
theorem itoa_dig {n : Int} (hn : 0 ≤ n) {b : UInt8} (hb : b ∈ itoa n) : 48 ≤ b.toNat ∧ b.toNat ≤ 57 := by
  unfold itoa at hb
  rw [if_neg (by omega)] at hb
  obtain ⟨j, hj⟩ := List.mem_iff_getElem?.1 hb
  obtain ⟨d, hd⟩ := digit_of_decFrom (decDigits n.toNat) 0 _ (decFrom_decDigits n.toNat 0) j b hj
  have := digitVal_eq hd
  omega
theorem itoa_ne (n : Int) : itoa n ≠ [] := fun h => by
  have := atoi_itoa n
  rw [h] at this
  cases this
/-! A set's words. -/
theorem bitV_mod {v : Int} {k : Nat} (h0 : 0 ≤ v) (hk : k < 12) : bitV v k = decide (v / 2 ^ k % 2 = 1) := by
  unfold bitV
  have e : bits .and .i64 (v / 2 ^ k) 1 = v / 2 ^ k % 2 := by
    show IntKind.i64.wrap ((BitVec.ofInt 64 (v / 2 ^ k) &&& BitVec.ofInt 64 1).toNat : Int) = _
    rw [BitVec.toNat_and, BitVec.toNat_ofInt, BitVec.toNat_ofInt, IntKind.wrap_i64]
    rw [show ((1 : Int) % ((2 : Nat) ^ 64 : Nat)).toNat = 2 ^ 1 - 1 from rfl, Nat.and_two_pow_sub_one_eq_mod]
    generalize v / 2 ^ k = q
    omega
  rw [e, Bool.eq_iff_iff]
  simp
theorem i64_or_nat2 (a b : Nat) (ha : a < 4096) (hb : b < 4096) : bits .or .i64 (a : Int) (b : Int) = ((a ||| b : Nat) : Int) := by
  have hx : a ||| b < 2 ^ 12 := Nat.or_lt_two_pow (by omega) (by omega)
  show IntKind.i64.wrap ((BitVec.ofInt 64 (a : Int) ||| BitVec.ofInt 64 (b : Int)).toNat : Int) = _
  rw [BitVec.toNat_or, ofInt_u64 a (by omega), ofInt_u64 b (by omega), IntKind.wrap_i64]
  omega
theorem or_pow {a : Int} {k : Nat} (h0 : 0 ≤ a) (h1 : a < 2 ^ k) (hk : k < 12) : bits .or .i64 a (2 ^ k) = a + 2 ^ k := by
  obtain ⟨n, rfl⟩ := Int.eq_ofNat_of_zero_le h0
  have hp : (2 : Nat) ^ k ≤ 2 ^ 11 := Nat.pow_le_pow_right (by omega) (by omega)
  have e : ((2 : Int) ^ k) = ((2 ^ k : Nat) : Int) := by simp
  rw [e] at h1 ⊢
  have hn : n < 2 ^ k := by omega
  rw [i64_or_nat2 n (2 ^ k) (by omega) (by omega), Nat.or_comm]
  have := Nat.two_pow_add_eq_or_of_lt hn 1
  rw [Nat.mul_one] at this
  rw [← this]
  omega
theorem mod_step {v : Int} {k : Nat} (h0 : 0 ≤ v) : v % 2 ^ (k + 1) = v % 2 ^ k + (if v / 2 ^ k % 2 = 1 then 2 ^ k else 0) := by
  obtain ⟨n, rfl⟩ := Int.eq_ofNat_of_zero_le h0
  have e : ∀ j : Nat, ((2 : Int) ^ j) = ((2 ^ j : Nat) : Int) := by simp
  rw [e, e]
  have h := Nat.mod_pow_succ (b := 2) (k := k) (x := n)
  have e2 : ((n : Int) / ((2 ^ k : Nat) : Int)) % 2 = ((n / 2 ^ k % 2 : Nat) : Int) := by simp
  have e3 : ((n : Int) % ((2 ^ (k + 1) : Nat) : Int)) = ((n % 2 ^ (k + 1) : Nat) : Int) := by simp
  have e4 : ((n : Int) % ((2 ^ k : Nat) : Int)) = ((n % 2 ^ k : Nat) : Int) := by simp
  rw [e2, e3, e4, h]
  rcases Nat.mod_two_eq_zero_or_one (n / 2 ^ k) with h2 | h2
  · rw [h2, if_neg (by decide)]; simp
  · rw [h2, if_pos (by decide)]; simp
theorem mod_lt_pow {v : Int} {k : Nat} (h0 : 0 ≤ v) : 0 ≤ v % 2 ^ k ∧ v % 2 ^ k < 2 ^ k := by
  have hp : (0 : Int) < 2 ^ k := Int.pow_pos (by omega)
  exact ⟨Int.emod_nonneg _ (by omega), Int.emod_lt_of_pos _ hp⟩
theorem orW_num (a : Int) {k : Nat} (hk : k < 12) : orW a (num (k : Int)) = bits .or .i64 a (2 ^ k) := by
  unfold orW
  rw [num_data, numIn_iff.2 ⟨rfl, by omega, by omega⟩]
  show (if (k : Int) ≤ 11 then bits .or .i64 a (2 ^ (k : Int).toNat) else a) = _
  rw [if_pos (by omega), Int.toNat_natCast]
theorem setI_words {v : Int} (h0 : 0 ≤ v) : ∀ j, j ≤ 12 → setI (wordsT v j) = v % 2 ^ j
  | 0, _ => by
    have : wordsT v 0 = [] := rfl
    rw [this]
    show (0 : Int) = v % 2 ^ 0
    simp
  | j + 1, h => by
    have ih := setI_words h0 j (by omega)
    have hm := mod_step (v := v) (k := j) h0
    have hb := bitV_mod (v := v) (k := j) h0 (by omega)
    have hl := mod_lt_pow (v := v) (k := j) h0
    cases hq : bitV v j
    · rw [wordsT_drop hq, ih, hm]
      rw [hq] at hb
      rw [if_neg (by simpa using hb)]
      omega
    · rw [wordsT_keep hq]
      unfold setI at ih ⊢
      rw [List.foldl_append, ih]
      show orW (v % 2 ^ j) (num (j : Int)) = _
      rw [orW_num _ (by omega), or_pow hl.1 hl.2 (by omega), hm, if_pos (by rw [hq] at hb; simpa using hb.symm)]
theorem hasS_words {v : Int} {k : Nat} (hk : k < 12) : hasS (wordsT v 12) (num (k : Int)) = bitV v k := by
  rw [Bool.eq_iff_iff]
  unfold hasS
  rw [List.any_eq_true]
  constructor
  · rintro ⟨x, hx, he⟩
    obtain ⟨i, hi, rfl⟩ := List.mem_map.1 hx
    have hi2 := (List.mem_filter.1 hi).2
    rw [beq_iff_eq, Lib.toList_data, Lib.toList_data, num_data, num_data] at he
    have := itoa_inj he
    have : i = k := by omega
    subst this
    exact hi2
  · intro h
    exact ⟨num (k : Int), List.mem_map.2 ⟨k, List.mem_filter.2 ⟨List.mem_range.2 hk, h⟩, rfl⟩, by simp⟩
theorem setS_words {v : Int} (h0 : 0 ≤ v) {ws : List ByteArray} (hw : ∀ k : Nat, k < 12 → hasS ws (num (k : Int)) = bitV v k) : ∀ j, j ≤ 12 → setS ws j = v % 2 ^ j
  | 0, _ => by
    show (0 : Int) = v % 2 ^ 0
    simp
  | j + 1, h => by
    have ih := setS_words h0 hw j (by omega)
    have hm := mod_step (v := v) (k := j) h0
    have hb := bitV_mod (v := v) (k := j) h0 (by omega)
    have hl := mod_lt_pow (v := v) (k := j) h0
    unfold setS at ih ⊢
    rw [List.range_succ, List.foldl_append, ih]
    show orS ws (v % 2 ^ j) j = _
    unfold orS
    rw [hw j (by omega)]
    cases hq : bitV v j
    · rw [if_neg (by decide), hm]
      rw [hq] at hb
      rw [if_neg (by simpa using hb)]
      omega
    · rw [if_pos rfl, or_pow hl.1 hl.2 (by omega), hm, if_pos (by rw [hq] at hb; simpa using hb.symm)]
theorem word_no {v : Int} {j : Nat} {x : ByteArray} (hx : x ∈ wordsT v j) {b : UInt8} (hb : b ∈ x.data.toList) : 48 ≤ b.toNat ∧ b.toNat ≤ 57 := by
  obtain ⟨i, hi, rfl⟩ := List.mem_map.1 hx
  rw [num_data] at hb
  exact itoa_dig (by omega) hb
theorem join_split2 (l : List ByteArray) (h : ∀ x ∈ l, (32 : UInt8) ∉ x.data.toList) : splitS (toB (joinL l sp1)) 32 = l ∨ (l = [] ∧ splitS (toB (joinL l sp1)) 32 = [toB []]) := by
  cases l with
  | nil => exact .inr ⟨rfl, rfl⟩
  | cons x r =>
    left
    have e : joinL (x :: r) sp1 = x.data.toList ++ ((r.map (·.data.toList)).map (fun q => [32] ++ q)).flatten := by
      unfold joinL
      rw [List.map_cons, join_cons]
      rfl
    unfold splitS
    rw [show (toB (joinL (x :: r) sp1)).data.toList = joinL (x :: r) sp1 by simp [toB], e, splitT_row (h x (by simp))]
    · rw [List.map_cons, List.map_map]
      have t : ∀ y : ByteArray, toB y.data.toList = y := fun y => by unfold toB; apply ByteArray.ext; simp
      rw [t]
      congr 1
      conv => rhs; rw [← List.map_id r]
      exact List.map_congr_left fun y _ => t y
    · intro q hq
      obtain ⟨y, hy, rfl⟩ := List.mem_map.1 hq
      exact h y (by simp [hy])
theorem join_no (l : List ByteArray) {c : UInt8} (hc : c ≠ 32) (h : ∀ x ∈ l, c ∉ x.data.toList) : c ∉ joinL l sp1 := by
  cases l with
  | nil => simp [joinL, Lib.join, List.intercalate]
  | cons x r =>
    unfold joinL
    rw [List.map_cons, join_cons]
    intro hm
    rcases List.mem_append.1 hm with hm | hm
    · exact h x (by simp) hm
    · unfold joinTail at hm
      obtain ⟨q, hq, hcq⟩ := List.mem_flatten.1 hm
      obtain ⟨y, hy, rfl⟩ := List.mem_map.1 hq
      obtain ⟨z, hz, rfl⟩ := List.mem_map.1 hy
      rcases List.mem_append.1 hcq with hcq | hcq
      · exact hc (by simpa [sp1] using hcq)
      · exact h z (by simp [hz]) hcq
theorem trim_in {J : List UInt8} (h : ∀ b ∈ J, ([123, 125] : List UInt8).contains b = false) : trimS ([123] ++ J ++ [125]) [123, 125] = J := by
  have hr : trimRightS ([123] ++ J ++ [125]) [123, 125] = if J = [] then [] else 123 :: J := by
    unfold trimRightS
    cases hJ : J.reverse with
    | nil =>
      have : J = [] := List.reverse_eq_nil_iff.1 hJ
      subst this
      decide
    | cons c r =>
      have hc : c ∈ J := List.mem_reverse.1 (by rw [hJ]; simp)
      have hn : J ≠ [] := fun e => by rw [e] at hc; simp at hc
      rw [if_neg hn]
      simp only [List.reverse_append, List.reverse_cons, List.reverse_nil, List.nil_append, hJ, List.cons_append]
      rw [List.dropWhile_cons_of_pos (by decide), List.dropWhile_cons_of_neg (by rw [h c hc]; decide)]
      rw [← List.cons_append, ← hJ]
      simp
  unfold trimS
  rw [hr]
  cases J with
  | nil => rfl
  | cons b r =>
    rw [if_neg (by simp)]
    unfold trimLeftS
    rw [List.dropWhile_cons_of_pos (by decide), List.dropWhile_cons_of_neg (by rw [h b (by simp)]; decide)]
theorem brace_no {v : Int} {b : UInt8} (hb : b ∈ joinL (wordsT v 12) sp1) : ([123, 125] : List UInt8).contains b = false := by
  have h1 : b ≠ 123 := fun e => by
    subst e
    exact join_no _ (by decide) (fun x hx hm => by have := word_no hx hm; revert this; decide) hb
  have h2 : b ≠ 125 := fun e => by
    subst e
    exact join_no _ (by decide) (fun x hx hm => by have := word_no hx hm; revert this; decide) hb
  simp [h1, h2]
theorem split_words (v : Int) : splitS (toB (joinL (wordsT v 12) sp1)) 32 = wordsT v 12 ∨ (wordsT v 12 = [] ∧ splitS (toB (joinL (wordsT v 12) sp1)) 32 = [toB []]) :=
  join_split2 _ fun x hx hm => by have := word_no hx hm; revert this; decide
/-! Each side reads the value whose text it is. -/
theorem ofT_one {v : Int} (h : ofT v 1 = true) : -1000000 ≤ v ∧ v ≤ 1000000 := by
  unfold ofT at h
  simp only [decide_eq_true_eq] at h
  have := h.2.2
  unfold co sat at this
  rw [if_pos rfl] at this
  (repeat' split at this) <;> omega
theorem ofT_three {v : Int} (h : ofT v 3 = true) : v = 0 ∨ v = 1 := by
  unfold ofT at h
  simp only [decide_eq_true_eq] at h
  have := h.2.2
  unfold co at this
  rw [if_neg (by decide), if_neg (by decide), if_pos rfl] at this
  split at this <;> omega
theorem ofT_four {v : Int} (h : ofT v 4 = true) : 0 ≤ v ∧ v ≤ 999 := by
  unfold ofT at h
  simp only [decide_eq_true_eq] at h
  have := h.2.2
  unfold co at this
  rw [if_neg (by decide), if_neg (by decide), if_neg (by decide)] at this
  split at this <;> omega
theorem fmt_yes {v k : Int} {s : ByteArray} (h : s.size ≠ 0) (e : fmtTyped v k = s) : ofT v k = true := by
  cases t : ofT v k
  · exfalso
    unfold fmtTyped at e
    rw [if_pos t] at e
    subst e
    exact h rfl
  · rfl
theorem cat_data (a b : ByteArray) : (a ++ b).data.toList = a.data.toList ++ b.data.toList := by simp
theorem num_none {l : List UInt8} {lo hi : Int} (h : atoi l = none) : numIn l lo hi = none := by unfold numIn; rw [h]
theorem num_of {n lo hi : Int} {l : List UInt8} (h : l = itoa n) (h0 : lo ≤ n) (h1 : n ≤ hi) : (numIn l lo hi).getD 0 = n := by
  rw [numIn_iff.2 ⟨h.symm, h0, h1⟩]
  rfl
theorem isTrue_iff (s : ByteArray) : isTrue s = true ↔ s.data.toList = [116, 114, 117, 101] := by
  unfold isTrue
  rw [beq_iff_eq, Lib.toList_data, Lib.toList_data]
theorem size_data (s : ByteArray) : s.size = s.data.toList.length := by rw [Array.length_toList]; rfl
theorem ext_data (s : ByteArray) (a b : Nat) : (s.extract a b).data.toList = (s.data.toList.drop a).take (min b s.size - a) := by
  simp [ByteArray.data_extract, Array.toList_extract, List.extract]
  by_cases h : b ≤ s.size
  · rw [Nat.min_eq_left h]
  · omega
theorem reads_I {v k : Int} {s : ByteArray} (h : s.size ≠ 0) (e : fmtTyped v k = s) : valI s k = v := by
  have t := fmt_yes h e
  obtain ⟨k0, k1⟩ := ofT_kinds t
  have hk : k = 1 ∨ k = 2 ∨ k = 3 ∨ k = 4 := by omega
  unfold fmtTyped at e
  rw [if_neg (by rw [t]; decide)] at e
  unfold valI
  rcases hk with rfl | rfl | rfl | rfl
  · rw [if_pos rfl] at e ⊢
    have := ofT_one t
    subst e
    exact num_of (num_data v) (by omega) (by omega)
  · rw [if_neg (by decide), if_neg (by decide), if_neg (by decide)] at e
    rw [if_neg (by decide), if_neg (by decide), if_neg (by decide), if_pos rfl]
    have hs : s.data.toList = [123] ++ joinL (wordsT v 12) sp1 ++ [125] := by rw [← e, cat_data, cat_data]
    have ht : trimB s = toB (joinL (wordsT v 12) sp1) := by
      unfold trimB
      rw [hs, trim_in fun b hb => brace_no hb]
      rfl
    have hw : wordsM (toB (joinL (wordsT v 12) sp1)) = splitS (toB (joinL (wordsT v 12) sp1)) 32 := by
      unfold wordsM
      apply splitBT_row
      have h1 := splitL_len 32 (toB (joinL (wordsT v 12) sp1)).data.toList
      rw [← size_data] at h1
      have h2 : (splitL (toB (joinL (wordsT v 12) sp1)).data.toList 32).length = (splitS (toB (joinL (wordsT v 12) sp1)) 32).length := by unfold splitS; rw [List.length_map]
      have h3 : (splitS (toB (joinL (wordsT v 12) sp1)) 32).length ≤ 13 := by
        have hl := wordsT_len v 12
        rcases split_words v with h | ⟨_, h⟩ <;> rw [h]
        · omega
        · simp
      omega
    rw [ht, hw]
    obtain ⟨b0, b1⟩ := set_bounds t
    have hv : setI (wordsT v 12) = v := by
      rw [setI_words b0 12 (by omega)]
      exact Int.emod_eq_of_lt b0 (by omega)
    rcases split_words v with h | ⟨h, h2⟩
    · rw [h, hv]
    · rw [h2, ← hv, h]
      rfl
  · rw [if_neg (by decide), if_pos rfl] at e
    rw [if_neg (by decide), if_pos rfl]
    rcases ofT_three t with rfl | rfl
    · rw [if_neg (by decide)] at e
      subst e
      rw [if_neg (by rw [isTrue_iff]; decide)]
    · rw [if_pos rfl] at e
      subst e
      rw [if_pos ((isTrue_iff _).2 rfl)]
  · rw [if_neg (by decide), if_neg (by decide), if_pos rfl] at e
    rw [if_neg (by decide), if_neg (by decide), if_pos rfl]
    obtain ⟨b0, b1⟩ := ofT_four t
    by_cases hv : v = 0
    · rw [if_pos hv] at e
      subst e hv
      rw [num_none (by decide)]
      rfl
    · rw [if_neg hv] at e
      refine num_of ?_ (by omega) (by omega)
      have hs : s.data.toList = 35 :: itoa v := by rw [← e, cat_data, num_data]; rfl
      unfold cutH
      rw [hs]
      unfold trimPrefix
      rw [if_pos (by simp [hasPrefix])]
      simp
theorem reads_S {v k : Int} {s : ByteArray} (h : s.size ≠ 0) (e : fmtTyped v k = s) : valS s k = v := by
  have t := fmt_yes h e
  obtain ⟨k0, k1⟩ := ofT_kinds t
  have hk : k = 1 ∨ k = 2 ∨ k = 3 ∨ k = 4 := by omega
  unfold fmtTyped at e
  rw [if_neg (by rw [t]; decide)] at e
  unfold valS
  rcases hk with rfl | rfl | rfl | rfl
  · rw [if_pos rfl] at e ⊢
    have := ofT_one t
    subst e
    exact num_of (num_data v) (by omega) (by omega)
  · rw [if_neg (by decide), if_neg (by decide), if_neg (by decide)] at e
    rw [if_neg (by decide), if_neg (by decide), if_neg (by decide), if_pos rfl]
    have hs : s.data.toList = [123] ++ joinL (wordsT v 12) sp1 ++ [125] := by rw [← e, cat_data, cat_data]
    have hz : s.size = (joinL (wordsT v 12) sp1).length + 2 := by rw [size_data, hs]; simp
    obtain ⟨b0, b1⟩ := set_bounds t
    have hx : s.extract 1 (s.size - 1) = toB (joinL (wordsT v 12) sp1) := by
      have : (s.extract 1 (s.size - 1)).data.toList = joinL (wordsT v 12) sp1 := by
        rw [ext_data, hs, hz]
        simp
      unfold toB
      rw [← this]
    have hb : ∀ k : Nat, k < 12 → hasS (splitS (toB (joinL (wordsT v 12) sp1)) 32) (num (k : Int)) = bitV v k := fun k hk => by
      rcases split_words v with h | ⟨h, h2⟩
      · rw [h, hasS_words hk]
      · rw [h2, ← hasS_words hk, h]
        unfold hasS
        simp only [List.any_cons, List.any_nil, Bool.or_false]
        rw [beq_eq_false_iff_ne, Lib.toList_data, Lib.toList_data, num_data]
        exact fun e => itoa_ne _ e.symm
    rw [hx]
    have hv : setS (splitS (toB (joinL (wordsT v 12) sp1)) 32) 12 = v := by
      rw [setS_words b0 hb 12 (by omega)]
      exact Int.emod_eq_of_lt b0 (by omega)
    by_cases h2 : 2 < s.size
    · rw [if_pos h2, hv]
    · rw [if_neg h2]
      have hJ : joinL (wordsT v 12) sp1 = [] := List.length_eq_zero_iff.1 (by omega)
      rw [hJ] at hv
      rw [← hv]
      have : ∀ k : Nat, hasS (splitS (toB []) 32) (num (k : Int)) = false := fun k => by
        show hasS [toB []] _ = false
        unfold hasS
        simp only [List.any_cons, List.any_nil, Bool.or_false]
        rw [beq_eq_false_iff_ne, Lib.toList_data, Lib.toList_data, num_data]
        exact fun e => itoa_ne _ e.symm
      have z : ∀ j, setS (splitS (toB []) 32) j = 0 := fun j => by
        induction j with
        | zero => rfl
        | succ j ih =>
          unfold setS at ih ⊢
          rw [List.range_succ, List.foldl_append, ih]
          show orS _ 0 j = 0
          unfold orS
          rw [this j]
          rfl
      exact (z 12).symm
  · rw [if_neg (by decide), if_pos rfl] at e
    rw [if_neg (by decide), if_pos rfl]
    rcases ofT_three t with rfl | rfl
    · rw [if_neg (by decide)] at e
      subst e
      rw [if_neg (by rw [isTrue_iff]; decide)]
    · rw [if_pos rfl] at e
      subst e
      rw [if_pos ((isTrue_iff _).2 rfl)]
  · rw [if_neg (by decide), if_neg (by decide), if_pos rfl] at e
    rw [if_neg (by decide), if_neg (by decide), if_pos rfl]
    obtain ⟨b0, b1⟩ := ofT_four t
    by_cases hv : v = 0
    · rw [if_pos hv] at e
      subst e hv
      rw [if_pos (by decide), num_none (by decide)]
      rfl
    · rw [if_neg hv] at e
      have hs : s.data.toList = 35 :: itoa v := by rw [← e, cat_data, num_data]; rfl
      have hz : 1 < s.size := by
        have := List.length_pos_iff.2 (itoa_ne v)
        rw [size_data, hs, List.length_cons]
        omega
      rw [if_pos hz]
      refine num_of ?_ (by omega) (by omega)
      rw [ext_data, hs, Nat.min_self, size_data, hs]
      simp
theorem parse_eq (s : ByteArray) (k : Int) : parseW s k (valI s k) = parseT s k := by
  unfold parseT parseW
  by_cases h : s.size ≠ 0
  · by_cases h1 : fmtTyped (valI s k) k = s
    · rw [reads_S h h1]
    · by_cases h2 : fmtTyped (valS s k) k = s
      · rw [reads_I h h2]
      · rw [if_neg (fun q => h1 q.2), if_neg (fun q => h2 q.2)]
  · rw [if_neg (fun q => h q.1), if_neg (fun q => h q.1)]
theorem parseT_fmt {v k : Int} (h : ofT v k = true) (hn : (fmtTyped v k).size ≠ 0) : parseT (fmtTyped v k) k = (v, true) := by
  unfold parseT parseW
  have := reads_S hn rfl
  rw [this, if_pos ⟨hn, rfl⟩]
theorem parseT_true {s : ByteArray} {k : Int} (h : (parseT s k).2 = true) : fmtTyped (parseT s k).1 k = s := by
  unfold parseT parseW at h ⊢
  split
  · rename_i q; exact q.2
  · rename_i q; rw [if_neg q] at h; cases h
theorem wrap_bd (x : Int) : -9223372036854775808 ≤ IntKind.i64.wrap x ∧ IntKind.i64.wrap x ≤ 9223372036854775807 := by
  rw [IntKind.wrap_i64]
  omega
theorem or_bd (a b : Int) : -9223372036854775808 ≤ bits .or .i64 a b ∧ bits .or .i64 a b ≤ 9223372036854775807 := wrap_bd _
theorem orW_bd {a : Int} (h : -9223372036854775808 ≤ a ∧ a ≤ 9223372036854775807) (x : ByteArray) : -9223372036854775808 ≤ orW a x ∧ orW a x ≤ 9223372036854775807 := by
  unfold orW
  split
  · split
    · exact or_bd _ _
    · exact h
  · exact h
theorem orS_bd {a : Int} (ws : List ByteArray) (h : -9223372036854775808 ≤ a ∧ a ≤ 9223372036854775807) (k : Nat) : -9223372036854775808 ≤ orS ws a k ∧ orS ws a k ≤ 9223372036854775807 := by
  unfold orS
  split
  · exact or_bd _ _
  · exact h
end Go.Proofs.YtbijabgokhmfhaaGreatDoor
