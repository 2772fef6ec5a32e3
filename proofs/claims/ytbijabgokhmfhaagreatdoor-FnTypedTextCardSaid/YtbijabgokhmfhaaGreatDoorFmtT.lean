/- Values as text by their types: both sides. Conditions: the value fits an int; the program's: the library's table of powers is laid. -/
import Derived.Test.YtbijabgokhmfhaaGreatDoorItoa
import Derived.Test.YtbijabgokhmfhaaGreatDoorJoin
import Derived.Test.YtbijabgokhmfhaaGreatDoorOwn
import Derived.Test.YtbijabgokhmfhaaGreatDoorVals
import Derived.Test.YtbijabgokhmfhaaGreatDoorInfo
namespace Go.Proofs.YtbijabgokhmfhaaGreatDoor
set_option maxRecDepth 100000
open Go.RowKit Go.Lib
set_option linter.unusedVariables false

def num (n : Int) : ByteArray := ⟨(itoa n).toArray⟩
def bitV (v : Int) (k : Nat) : Bool := bits .and .i64 (v / 2 ^ k) 1 == 1
def wordsT (v : Int) (j : Nat) : List ByteArray := ((List.range j).filter (bitV v)).map fun k : Nat => num (k : Int)
def sp1 : ByteArray := ⟨#[32]⟩
def fmtTyped (v k : Int) : ByteArray :=
  if ofT v k = false then ⟨#[]⟩ else if k = 1 then num v else if k = 3 then (if v = 1 then ⟨#[116, 114, 117, 101]⟩ else ⟨#[102, 97, 108, 115, 101]⟩)
  else if k = 4 then (if v = 0 then ⟨#[110, 111, 110, 101]⟩ else ⟨#[35]⟩ ++ num v) else ⟨#[123]⟩ ++ ⟨(joinL (wordsT v 12) sp1).toArray⟩ ++ ⟨#[125]⟩
theorem wordsT_keep {v : Int} {j : Nat} (h : bitV v j = true) : wordsT v (j + 1) = wordsT v j ++ [num (j : Int)] := by
  unfold wordsT
  rw [List.range_succ, List.filter_append]
  simp [List.filter, h]
theorem wordsT_drop {v : Int} {j : Nat} (h : bitV v j = false) : wordsT v (j + 1) = wordsT v j := by
  unfold wordsT
  rw [List.range_succ, List.filter_append]
  simp [List.filter, h]
theorem wordsT_len (v : Int) (j : Nat) : (wordsT v j).length ≤ j := by
  unfold wordsT
  rw [List.length_map]
  exact Nat.le_trans (List.length_filter_le _ _) (by simp)
theorem num_size {n : Int} (h0 : -9223372036854775808 ≤ n) (h1 : n ≤ 9223372036854775807) : (num n).size ≤ 21 := by
  have := itoa_length_le n h0 h1
  simpa [num, ByteArray.size] using this
theorem words_bulk (v : Int) : bulkS (wordsT v 12) ≤ 252 := by
  have h : ∀ l : List ByteArray, (∀ x ∈ l, x.size ≤ 21) → bulkS l ≤ 21 * l.length := by
    intro l
    induction l with
    | nil => intro _; simp [bulkS]
    | cons a r ih =>
      intro ha
      have := ih (fun x hx => ha x (by simp [hx]))
      have := ha a (by simp)
      simp only [List.length_cons]
      show (a.size : Int) + bulkS r ≤ _
      omega
  have h1 := h (wordsT v 12) (fun x hx => by
    obtain ⟨k, hk, rfl⟩ := List.mem_map.1 hx
    have := List.mem_range.1 (List.mem_filter.1 hk).1
    exact num_size (by omega) (by omega))
  have := wordsT_len v 12
  omega
theorem ofT_kinds {v k : Int} (h : ofT v k = true) : 1 ≤ k ∧ k ≤ 4 := by
  unfold ofT at h
  simp at h
  omega
theorem set_bounds {v : Int} (h : ofT v 2 = true) : 0 ≤ v ∧ v ≤ 4095 := by
  unfold ofT at h
  simp at h
  have h2 : co v 2 = v % 4096 := bits_4095 v
  rw [h2] at h
  omega
set_option maxRecDepth 100000 in
set_option maxHeartbeats 2000000 in
theorem s_FormatTyped (v k : Int) (h0 : -9223372036854775808 ≤ v) (h1 : v ≤ 9223372036854775807) (w : World) :
    Calls Tryz.prog 10 #[.int .i64 v, .int .i64 k] w fun e w' => e = .returned (.string (fmtTyped v k)) ∧ Below w.heap.size w w' := by
  have hBw : Below w.heap.size w w := Below.refl _ _
  cases t : ofT v k
  case false =>
    have Hr : Hid (fmtTyped v k = ⟨#[]⟩) := hide (by unfold fmtTyped; rw [if_pos t])
    go_enter Tryz.func10, Tryz.ntmps10
    go_wp2_with (go_at_call 11; refine (s_IsOfType _ _ _).mono ?_; rintro e w' ⟨rfl, rfl⟩; rw [t])
    go_ret
    exact ⟨ret_string Hr.out.symm, Below.refl _ _⟩
  obtain ⟨k0, k1⟩ := ofT_kinds t
  have hk : k = 1 ∨ k = 2 ∨ k = 3 ∨ k = 4 := by omega
  rcases hk with rfl | rfl | rfl | rfl
  · have Hr : Hid (fmtTyped v 1 = num v) := hide (by unfold fmtTyped; rw [if_neg (by rw [t]; decide), if_pos rfl])
    go_enter Tryz.func10, Tryz.ntmps10
    go_wp2_with (go_at_call 11; refine (s_IsOfType _ _ _).mono ?_; rintro e w' ⟨rfl, rfl⟩; rw [t])
    refine Calls.mono (s_FormatInt v (by omega) (by omega) w) ?_
    rintro en w1 ⟨rfl, hb⟩
    have Hb := hide hb
    clear hb
    go_wp2_with fail
    go_ret
    exact ⟨ret_string (by rw [Hr.out]; rfl), Hb.out⟩
  rotate_left
  · by_cases hv : v = 1
    · subst hv
      have Hr : Hid (fmtTyped 1 3 = ⟨#[116, 114, 117, 101]⟩) := hide (by unfold fmtTyped; rw [if_neg (by rw [t]; decide)]; rfl)
      go_enter Tryz.func10, Tryz.ntmps10
      go_wp2_with (go_at_call 11; refine (s_IsOfType _ _ _).mono ?_; rintro e w' ⟨rfl, rfl⟩; rw [t])
      go_ret
      exact ⟨ret_string Hr.out.symm, Below.refl _ _⟩
    · have hv1 : (v == 1) = false := by simpa using hv
      have Hr : Hid (fmtTyped v 3 = ⟨#[102, 97, 108, 115, 101]⟩) := hide (by unfold fmtTyped; rw [if_neg (by rw [t]; decide), if_neg (by decide), if_pos rfl, if_neg hv])
      clear hv
      go_enter Tryz.func10, Tryz.ntmps10
      go_wp2_with (go_at_call 11; refine (s_IsOfType _ _ _).mono ?_; rintro e w' ⟨rfl, rfl⟩; rw [t])
      go_ret
      exact ⟨ret_string Hr.out.symm, Below.refl _ _⟩
  · by_cases hv : v = 0
    · subst hv
      have Hr : Hid (fmtTyped 0 4 = ⟨#[110, 111, 110, 101]⟩) := hide (by unfold fmtTyped; rw [if_neg (by rw [t]; decide)]; rfl)
      go_enter Tryz.func10, Tryz.ntmps10
      go_wp2_with (go_at_call 11; refine (s_IsOfType _ _ _).mono ?_; rintro e w' ⟨rfl, rfl⟩; rw [t])
      go_ret
      exact ⟨ret_string Hr.out.symm, Below.refl _ _⟩
    · have hv1 : (v == 0) = false := by simpa using hv
      have Hr : Hid (fmtTyped v 4 = ⟨#[35]⟩ ++ num v) := hide (by unfold fmtTyped; rw [if_neg (by rw [t]; decide), if_neg (by decide), if_neg (by decide), if_pos rfl, if_neg hv])
      have Hns := hide (num_size h0 h1)
      clear hv
      go_enter Tryz.func10, Tryz.ntmps10
      go_wp2_with (go_at_call 11; refine (s_IsOfType _ _ _).mono ?_; rintro e w' ⟨rfl, rfl⟩; rw [t])
      refine Calls.mono (s_FormatInt v (by omega) (by omega) w) ?_
      rintro en w1 ⟨rfl, hb⟩
      have Hb := hide hb
      clear hb
      change Hid ((num v).size ≤ 21) at Hns
      have hns := Hns.out
      rw [show (⟨(itoa v).toArray⟩ : ByteArray) = num v from rfl]
      generalize num v = N at Hr hns ⊢
      go_wp2_with fail
      go_ret
      exact ⟨ret_string Hr.out.symm, Hb.out⟩
  obtain ⟨b0, b1⟩ := set_bounds t
  have Hr : Hid (fmtTyped v 2 = ⟨#[123]⟩ ++ ⟨(joinL (wordsT v 12) sp1).toArray⟩ ++ ⟨#[125]⟩) := hide (by unfold fmtTyped; rw [if_neg (by rw [t]; decide), if_neg (by decide), if_neg (by decide), if_neg (by decide)])
  go_enter Tryz.func10, Tryz.ntmps10
  go_wp2_with (go_at_call 11; refine (s_IsOfType _ _ _).mono ?_; rintro e w' ⟨rfl, rfl⟩; rw [t])
  go_loopw [5, 6] (fun o i wr => ∃ j : Nat, j ≤ 12 ∧ i = .int .i64 j ∧ Hid (OwnS 1 (StrR 0) w.heap.size 9 wr (wordsT v j) o []) ∧ Hid (Below w.heap.size w wr)) (fun _ i _ => 12 - (RowKit.intOf i).toNat)
  case atStart => exact ⟨0, by omega, rfl, hide (show OwnS 1 (StrR 0) w.heap.size _ _ [] _ [] from OwnS.made w (Nat.le_refl _)), hide (hBw.alloc (Nat.le_refl _) _)⟩
  case round =>
    obtain ⟨j, hj, rfl, Ho, Hb⟩ := hrel
    by_cases hlt : j < 12
    · have hbase := Hb.out.size
      have hlen := wordsT_len v j
      cases hq : bitV v j
      · have Hk := hide (wordsT_drop hq)
        unfold bitV at hq
        go_wp2_with fail
        exact ⟨⟨j + 1, by omega, by go_num, hide (by rw [Hk.out]; exact Ho.out), Hb⟩, by simp [RowKit.intOf]; omega⟩
      · have Hk := hide (wordsT_keep hq)
        have Hns := hide (num_size (n := (j : Int)) (by omega) (by omega))
        unfold bitV at hq
        go_wp2_with fail
        refine Calls.mono (s_FormatInt j (by omega) (by omega) wr) ?_
        rintro en w1 ⟨rfl, hb⟩
        have Hb1 := hide hb
        clear hb
        rw [show (⟨(itoa (j : Int)).toArray⟩ : ByteArray) = num j from rfl]
        go_wp2_with (at_builtin; refine app_ownS rfl (.tmp 38) (.tmp 41) 36 9 rfl Tryz.underlying36 infoStr2 rfl (by decide) (StrR.good 0) wr w1 w.heap.size _ (wordsT v j) [] Ho.out rfl Hb1.out (num j) [.string (num j)] [] ⟨rfl, by have := Hns.out; unfold maxLen; omega, rfl⟩ (Fresh.nil _ _) (by simp [Value.oneCell']) rfl (by omega) (by omega) hbase ?_; intro v1 w2 hown hbl)
        have Hown := hide hown
        have Hbl := hide hbl
        clear hown hbl
        go_wp2_with fail
        exact ⟨⟨j + 1, by omega, by go_num, hide (by rw [Hk.out]; exact Hown.out), hide (Hb.out.trans Hbl.out)⟩, by simp [RowKit.intOf]; omega⟩
    · have hjl : j = 12 := by omega
      subst hjl
      obtain ⟨G, hG, _⟩ := Ho.out.slr (StrR.good 0)
      have Hc := hide (s_Join 0 (wordsT v 12) _ G wr hG sp1 (by decide) (by have := wordsT_len v 12; omega) (Int.le_trans (words_bulk v) (by decide)))
      have Hjl := hide (joinL_len (xs := wordsT v 12) (s := sp1) (by decide) (by have := wordsT_len v 12; omega) (Int.le_trans (words_bulk v) (by decide)) 12)
      clear hG
      go_wp2_with fail
      refine Calls.mono Hc.out ?_
      rintro en w1 ⟨rfl, hb⟩
      have Hb1 := hide (Hb.out.trans (hb.mono Hb.out.size))
      clear hb
      have hjs : (⟨(joinL (wordsT v 12) sp1).toArray⟩ : ByteArray).size ≤ 2199023255552 := by
        have := Hjl.out
        rw [List.take_of_length_le (wordsT_len v 12)] at this
        simpa [ByteArray.size] using this
      generalize (⟨(joinL (wordsT v 12) sp1).toArray⟩ : ByteArray) = N at Hr hjs ⊢
      go_wp2_with fail
      go_ret
      exact ⟨ret_string Hr.out.symm, Hb1.out⟩
set_option maxRecDepth 100000 in
set_option maxHeartbeats 2000000 in
theorem i_FormatTyped (v k : Int) (h0 : -9223372036854775808 ≤ v) (h1 : v ≤ 9223372036854775807) (w : World) (htab : TabIs Tryz.prog w "internal/strconv.uint64pow10" .u64 pow10Tab) :
    Calls Tryz.prog 9 #[.int .i64 v, .int .i64 k] w fun e w' => e = .returned (.string (fmtTyped v k)) ∧ Below w.heap.size w w' := by
  have HT : Hid (∀ W : World, Below w.heap.size w W → TabIs Tryz.prog W "internal/strconv.uint64pow10" .u64 pow10Tab) := hide (tabBelow_of_tabIs htab)
  clear htab
  have hBw : Below w.heap.size w w := Below.refl _ _
  cases t : ofT v k
  case false =>
    have Hr : Hid (fmtTyped v k = ⟨#[]⟩) := hide (by unfold fmtTyped; rw [if_pos t])
    go_enter Tryz.func9, Tryz.ntmps9
    go_wp2_with (go_at_call 26; refine (i_IsOfType _ _ _).mono ?_; rintro e w' ⟨rfl, rfl⟩; rw [t])
    go_ret
    exact ⟨ret_string Hr.out.symm, Below.refl _ _⟩
  obtain ⟨k0, k1⟩ := ofT_kinds t
  have hk : k = 1 ∨ k = 2 ∨ k = 3 ∨ k = 4 := by omega
  rcases hk with rfl | rfl | rfl | rfl
  · have Hr : Hid (fmtTyped v 1 = num v) := hide (by unfold fmtTyped; rw [if_neg (by rw [t]; decide), if_pos rfl])
    go_enter Tryz.func9, Tryz.ntmps9
    go_wp2_with (go_at_call 26; refine (i_IsOfType _ _ _).mono ?_; rintro e w' ⟨rfl, rfl⟩; rw [t])
    refine Calls.mono (i_FormatInt v (by omega) (by omega) w (HT.out w hBw)) ?_
    rintro en w1 ⟨rfl, hb⟩
    have Hb := hide hb
    clear hb
    go_wp2_with fail
    go_ret
    exact ⟨ret_string (by rw [Hr.out]; rfl), Hb.out⟩
  rotate_left
  · by_cases hv : v = 1
    · subst hv
      have Hr : Hid (fmtTyped 1 3 = ⟨#[116, 114, 117, 101]⟩) := hide (by unfold fmtTyped; rw [if_neg (by rw [t]; decide)]; rfl)
      go_enter Tryz.func9, Tryz.ntmps9
      go_wp2_with (go_at_call 26; refine (i_IsOfType _ _ _).mono ?_; rintro e w' ⟨rfl, rfl⟩; rw [t])
      go_ret
      exact ⟨ret_string Hr.out.symm, Below.refl _ _⟩
    · have hv1 : (v == 1) = false := by simpa using hv
      have Hr : Hid (fmtTyped v 3 = ⟨#[102, 97, 108, 115, 101]⟩) := hide (by unfold fmtTyped; rw [if_neg (by rw [t]; decide), if_neg (by decide), if_pos rfl, if_neg hv])
      clear hv
      go_enter Tryz.func9, Tryz.ntmps9
      go_wp2_with (go_at_call 26; refine (i_IsOfType _ _ _).mono ?_; rintro e w' ⟨rfl, rfl⟩; rw [t])
      go_ret
      exact ⟨ret_string Hr.out.symm, Below.refl _ _⟩
  · by_cases hv : v = 0
    · subst hv
      have Hr : Hid (fmtTyped 0 4 = ⟨#[110, 111, 110, 101]⟩) := hide (by unfold fmtTyped; rw [if_neg (by rw [t]; decide)]; rfl)
      go_enter Tryz.func9, Tryz.ntmps9
      go_wp2_with (go_at_call 26; refine (i_IsOfType _ _ _).mono ?_; rintro e w' ⟨rfl, rfl⟩; rw [t])
      go_ret
      exact ⟨ret_string Hr.out.symm, Below.refl _ _⟩
    · have hv1 : (v == 0) = false := by simpa using hv
      have Hr : Hid (fmtTyped v 4 = ⟨#[35]⟩ ++ num v) := hide (by unfold fmtTyped; rw [if_neg (by rw [t]; decide), if_neg (by decide), if_neg (by decide), if_pos rfl, if_neg hv])
      have Hns := hide (num_size h0 h1)
      clear hv
      go_enter Tryz.func9, Tryz.ntmps9
      go_wp2_with (go_at_call 26; refine (i_IsOfType _ _ _).mono ?_; rintro e w' ⟨rfl, rfl⟩; rw [t])
      refine Calls.mono (i_FormatInt v (by omega) (by omega) w (HT.out w hBw)) ?_
      rintro en w1 ⟨rfl, hb⟩
      have Hb := hide hb
      clear hb
      change Hid ((num v).size ≤ 21) at Hns
      have hns := Hns.out
      rw [show (⟨(itoa v).toArray⟩ : ByteArray) = num v from rfl]
      generalize num v = N at Hr hns ⊢
      go_wp2_with fail
      go_ret
      exact ⟨ret_string Hr.out.symm, Hb.out⟩
  obtain ⟨b0, b1⟩ := set_bounds t
  have Hr : Hid (fmtTyped v 2 = ⟨#[123]⟩ ++ ⟨(joinL (wordsT v 12) sp1).toArray⟩ ++ ⟨#[125]⟩) := hide (by unfold fmtTyped; rw [if_neg (by rw [t]; decide), if_neg (by decide), if_neg (by decide), if_neg (by decide)])
  go_enter Tryz.func9, Tryz.ntmps9
  go_wp2_with (go_at_call 26; refine (i_IsOfType _ _ _).mono ?_; rintro e w' ⟨rfl, rfl⟩; rw [t])
  go_loopw [5, 6, 41] (fun o k6 i wr => ∃ j : Nat, j ≤ 12 ∧ i = .int .i64 j ∧ Hid (OwnS 1 (StrR 0) w.heap.size 9 wr (wordsT v j) o []) ∧ Hid (Below w.heap.size w wr)) (fun _ _ i _ => 12 - (RowKit.intOf i).toNat)
  case atStart => exact ⟨0, by omega, rfl, hide (show OwnS 1 (StrR 0) w.heap.size _ _ [] _ [] from OwnS.made w (Nat.le_refl _)), hide (hBw.alloc (Nat.le_refl _) _)⟩
  case round =>
    obtain ⟨j, hj, rfl, Ho, Hb⟩ := hrel
    by_cases hlt : j < 12
    · have hbase := Hb.out.size
      have hlen := wordsT_len v j
      cases hq : bitV v j
      · have Hk := hide (wordsT_drop hq)
        unfold bitV at hq
        go_wp2_with fail
        exact ⟨⟨j + 1, by omega, by go_num, hide (by rw [Hk.out]; exact Ho.out), Hb⟩, by simp [RowKit.intOf]; omega⟩
      · have Hk := hide (wordsT_keep hq)
        have Hns := hide (num_size (n := (j : Int)) (by omega) (by omega))
        unfold bitV at hq
        go_wp2_with fail
        refine Calls.mono (i_FormatInt j (by omega) (by omega) wr (HT.out wr Hb.out)) ?_
        rintro en w1 ⟨rfl, hb⟩
        have Hb1 := hide hb
        clear hb
        rw [show (⟨(itoa (j : Int)).toArray⟩ : ByteArray) = num j from rfl]
        go_wp2_with (at_builtin; refine app_ownS rfl (.tmp 50) (.tmp 53) 36 9 rfl Tryz.underlying36 infoStr2 rfl (by decide) (StrR.good 0) wr w1 w.heap.size _ (wordsT v j) [] Ho.out rfl Hb1.out (num j) [.string (num j)] [] ⟨rfl, by have := Hns.out; unfold maxLen; omega, rfl⟩ (Fresh.nil _ _) (by simp [Value.oneCell']) rfl (by omega) (by omega) hbase ?_; intro v1 w2 hown hbl)
        have Hown := hide hown
        have Hbl := hide hbl
        clear hown hbl
        go_wp2_with fail
        exact ⟨⟨j + 1, by omega, by go_num, hide (by rw [Hk.out]; exact Hown.out), hide (Hb.out.trans Hbl.out)⟩, by simp [RowKit.intOf]; omega⟩
    · have hjl : j = 12 := by omega
      subst hjl
      obtain ⟨G, hG, _⟩ := Ho.out.slr (StrR.good 0)
      have Hc := hide (i_Join 0 (wordsT v 12) _ G wr hG sp1 (by decide) (by have := wordsT_len v 12; omega) (Int.le_trans (words_bulk v) (by decide)))
      have Hjl := hide (joinL_len (xs := wordsT v 12) (s := sp1) (by decide) (by have := wordsT_len v 12; omega) (Int.le_trans (words_bulk v) (by decide)) 12)
      clear hG
      go_wp2_with fail
      refine Calls.mono Hc.out ?_
      rintro en w1 ⟨rfl, hb⟩
      have Hb1 := hide (Hb.out.trans (hb.mono Hb.out.size))
      clear hb
      have hjs : (⟨(joinL (wordsT v 12) sp1).toArray⟩ : ByteArray).size ≤ 2199023255552 := by
        have := Hjl.out
        rw [List.take_of_length_le (wordsT_len v 12)] at this
        simpa [ByteArray.size] using this
      generalize (⟨(joinL (wordsT v 12) sp1).toArray⟩ : ByteArray) = N at Hr hjs ⊢
      go_wp2_with fail
      go_ret
      exact ⟨ret_string Hr.out.symm, Hb1.out⟩
end Go.Proofs.YtbijabgokhmfhaaGreatDoor
