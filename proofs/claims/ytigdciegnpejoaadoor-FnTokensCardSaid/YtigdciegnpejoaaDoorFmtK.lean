/- Tokens as text: both sides. Conditions: the row is not long and its texts are not; the program's: the library's table of powers is laid. -/
import Derived.Test.YtigdciegnpejoaaDoorFmtT
import Derived.Test.YtigdciegnpejoaaDoorTkn
namespace Go.Proofs.YtigdciegnpejoaaDoor
set_option maxRecDepth 100000
open Go.RowKit Go.Lib Go.WideShapes
set_option linter.unusedVariables false

def tokB (x : Tkn) : ByteArray := if x.kind = 1 ∨ x.kind = 3 then x.text else if x.kind = 2 then num x.n else ⟨#[]⟩
def fmtToks (xs : List Tkn) : ByteArray := ⟨(joinL (xs.map tokB) sp1).toArray⟩
theorem tok_next {xs : List Tkn} {j : Nat} {x : Tkn} (hx : xs[j]? = some x) : (xs.take (j + 1)).map tokB = (xs.take j).map tokB ++ [tokB x] := by
  rw [take_snoc hx, List.map_append]
  rfl
theorem toks_bulk {D : Nat} : ∀ {xs : List Tkn}, (∀ x ∈ xs, x.ok) → bulkS (xs.map tokB) ≤ sumBy (bulkTkn D) xs + 21 * xs.length
  | [], _ => by simp [bulkS, sumBy]
  | x :: r, h => by
    have ih := toks_bulk (D := D) (xs := r) fun y hy => h y (by simp [hy])
    have hk := h x (by simp)
    obtain ⟨n0, n1⟩ := wf_i64 hk.n
    have hn := num_size n0 n1
    have h1 : ((tokB x).size : Int) ≤ (x.text.size : Int) + 21 := by
      unfold tokB
      split
      · omega
      · split
        · omega
        · show ((0 : Nat) : Int) ≤ _
          omega
    simp only [List.map_cons, bulkS, sumBy, List.length_cons, bulkTkn] at ih ⊢
    omega
set_option maxRecDepth 100000 in
set_option maxHeartbeats 2000000 in
theorem s_FormatTokens (D : Nat) (xs : List Tkn) (v : Value) (F : List Nat) (w : World) (hs : SlR 4 (TknR D) w xs v F) (hn : xs.length ≤ 1048576) (hb : sumBy (bulkTkn D) xs ≤ 1048576) :
    Calls Tryd.prog 80 #[v] w fun en w' => en = .returned (.string (fmtToks xs)) ∧ Below w.heap.size w w' := by
  obtain ⟨A, cap, rfl, hlc, hm⟩ := hs.form
  have HF := hide (hs.lt (TknR.good D))
  have Hs := hide hs
  have Hok : Hid (∀ x ∈ xs, x.ok) := hide fun x hx => by
    obtain ⟨j, hj⟩ := List.mem_iff_getElem?.1 hx
    obtain ⟨b, off, cs, Fk, _, _, _, _, _, _, hR⟩ := SlR.get (TknR.good D) hs hj
    exact hR.2.1
  have Hbk : Hid (bulkS (xs.map tokB) ≤ 1099511627776) := hide (by have := toks_bulk (D := D) Hok.out; omega)
  have hmm : xs.length ≤ 9223372036854775807 := by omega
  have hBw : Below w.heap.size w w := Below.refl _ _
  clear hs hb hm hlc
  go_enter Tryd.func80, Tryd.ntmps80
  go_wp2_with fail
  go_loopw [3, 4] (fun o i wr => ∃ j : Nat, j ≤ xs.length ∧ i = .int .i64 j ∧ Hid (OwnS 1 (StrR 0) w.heap.size 9 wr ((xs.take j).map tokB) o []) ∧ Hid (Below w.heap.size w wr)) (fun _ i _ => xs.length - (RowKit.intOf i).toNat)
  case atStart => exact ⟨0, by omega, rfl, hide (show OwnS 1 (StrR 0) w.heap.size _ _ [] _ [] from OwnS.made w (Nat.le_refl _)), hide (hBw.alloc (Nat.le_refl _) _)⟩
  case round =>
    obtain ⟨j, hj, rfl, Ho, Hb⟩ := hrel
    by_cases hlt : j < xs.length
    · have hx : xs[j]? = some xs[j] := List.getElem?_eq_getElem hlt
      generalize xs[j] = x at hx
      obtain ⟨b, off, cs, Fk, hA, _, hbF, hFk, hcl, hcat, hR⟩ := SlR.get (TknR.good D) (Hs.out.below (TknR.good D) Hb.out HF.out) hx
      subst hA
      obtain ⟨c0, c1, c2, c3, rfl⟩ := list4 hcl
      obtain ⟨_, hk, h0, h1, h2, h3, rfl⟩ := hR
      obtain rfl := Option.some.inj h0
      obtain rfl := Option.some.inj h1
      obtain rfl := Option.some.inj h2
      obtain rfl := Option.some.inj h3
      obtain ⟨g0, g1, g2, g3⟩ := hcat.four
      have hblt := Nat.lt_of_lt_of_le (HF.out b hbF) Hb.out.size
      have Hkx := hide hk
      have Hk := hide (tok_next hx)
      have hj0 : (0 : Int) ≤ (j : Int) := by omega
      have hj1 : (j : Int) < (xs.length : Int) := by omega
      have hml : ((xs.take j).map tokB).length ≤ 1048576 := by rw [List.length_map]; exact Nat.le_trans (List.length_take_le' _ _) hn
      have hbase := Hb.out.size
      have Htl : Hid (x.text.size ≤ maxLen) := hide hk.text
      obtain ⟨n0, n1⟩ := wf_i64 hk.n
      have Hns := hide (num_size n0 n1)
      have hbz := Hb.out
      clear hx hcat hFk hbF hcl hk h0 h1 h2 h3
      obtain ⟨k, n, p, t⟩ := x
      simp only at g0 g1 g2 g3 Hk Htl Hns n0 n1
      by_cases hk1 : k = 1
      · subst hk1
        have e : tokB ⟨1, n, p, t⟩ = t := by unfold tokB; simp
        have Ht := hide (show t.size ≤ maxLen from Htl.out)
        go_wp2_with (at_builtin; refine app_ownS rfl (.tmp 23) (.tmp 29) 50 9 rfl Tryd.underlying50 infoStr2 rfl (by decide) (StrR.good 0) wr wr w.heap.size _ ((xs.take j).map tokB) [] Ho.out rfl (Below.refl _ _) (t) [.string (t)] [] ⟨rfl, by exact Ht.out, rfl⟩ (Fresh.nil _ _) (by simp [Value.oneCell']) rfl (by omega) (by omega) (by have := Hb.out.size; omega) ?_; intro v1 w2 hown hbl)
        have Hown := hide hown
        have Hbl := hide (Hb.out.trans hbl)
        clear hown hbl
        go_wp2_with fail
        exact ⟨⟨j + 1, by omega, by go_num, hide (by rw [Hk.out, e]; exact Hown.out), Hbl⟩, by simp [RowKit.intOf]; omega⟩
      by_cases hk3 : k = 3
      · subst hk3
        have e : tokB ⟨3, n, p, t⟩ = t := by unfold tokB; simp
        have Ht := hide (show t.size ≤ maxLen from Htl.out)
        go_wp2_with (at_builtin; refine app_ownS rfl (.tmp 23) (.tmp 29) 50 9 rfl Tryd.underlying50 infoStr2 rfl (by decide) (StrR.good 0) wr wr w.heap.size _ ((xs.take j).map tokB) [] Ho.out rfl (Below.refl _ _) (t) [.string (t)] [] ⟨rfl, by exact Ht.out, rfl⟩ (Fresh.nil _ _) (by simp [Value.oneCell']) rfl (by omega) (by omega) (by have := Hb.out.size; omega) ?_; intro v1 w2 hown hbl)
        have Hown := hide hown
        have Hbl := hide (Hb.out.trans hbl)
        clear hown hbl
        go_wp2_with fail
        exact ⟨⟨j + 1, by omega, by go_num, hide (by rw [Hk.out, e]; exact Hown.out), Hbl⟩, by simp [RowKit.intOf]; omega⟩
      by_cases hk2 : k = 2
      · subst hk2
        have e : tokB ⟨2, n, p, t⟩ = num n := by unfold tokB; simp
        go_wp2_with fail
        refine Calls.mono (s_FormatInt n n0 n1 wr) ?_
        rintro en w1 ⟨rfl, hb⟩
        have Hb1 := hide (hb)
        clear hb
        rw [show (⟨(itoa n).toArray⟩ : ByteArray) = num n from rfl]
        go_wp2_with (at_builtin; refine app_ownS rfl (.tmp 33) (.tmp 40) 50 9 rfl Tryd.underlying50 infoStr2 rfl (by decide) (StrR.good 0) wr w1 w.heap.size _ ((xs.take j).map tokB) [] Ho.out rfl Hb1.out (num n) [.string (num n)] [] ⟨rfl, by have := Hns.out; unfold maxLen; omega, rfl⟩ (Fresh.nil _ _) (by simp [Value.oneCell']) rfl (by omega) (by omega) (by have := Hb.out.size; omega) ?_; intro v1 w2 hown hbl)
        have Hown := hide hown
        have Hbl := hide (Hb.out.trans hbl)
        clear hown hbl
        go_wp2_with fail
        exact ⟨⟨j + 1, by omega, by go_num, hide (by rw [Hk.out, e]; exact Hown.out), Hbl⟩, by simp [RowKit.intOf]; omega⟩
      · have t1 : (k == 1) = false := by simpa using hk1
        have t2 : (k == 2) = false := by simpa using hk2
        have t3 : (k == 3) = false := by simpa using hk3
        have e : tokB ⟨k, n, p, t⟩ = ⟨#[]⟩ := by unfold tokB; rw [if_neg (by simp; omega), if_neg (by simpa using hk2)]
        clear hk1 hk2 hk3
        go_wp2_with (at_builtin; refine app_ownS rfl (.tmp 17) (.tmp 18) 50 9 rfl Tryd.underlying50 infoStr2 rfl (by decide) (StrR.good 0) wr wr w.heap.size _ ((xs.take j).map tokB) [] Ho.out rfl (Below.refl _ _) (⟨#[]⟩) [.string (⟨#[]⟩)] [] ⟨rfl, by decide, rfl⟩ (Fresh.nil _ _) (by simp [Value.oneCell']) rfl (by omega) (by omega) (by have := Hb.out.size; omega) ?_; intro v1 w2 hown hbl)
        have Hown := hide hown
        have Hbl := hide (Hb.out.trans hbl)
        clear hown hbl
        go_wp2_with fail
        exact ⟨⟨j + 1, by omega, by go_num, hide (by rw [Hk.out, e]; exact Hown.out), Hbl⟩, by simp [RowKit.intOf]; omega⟩
    · have hjl : j = xs.length := by omega
      subst hjl
      obtain ⟨G, hG, _⟩ := Ho.out.slr (StrR.good 0)
      rw [List.take_length] at hG
      have Hc := hide (s_Join 0 (xs.map tokB) _ G wr hG sp1 (by decide) (by rw [List.length_map]; exact hn) Hbk.out)
      clear hG
      go_wp2_with fail
      refine Calls.mono Hc.out ?_
      rintro en w1 ⟨rfl, hb⟩
      have Hb1 := hide (Hb.out.trans (hb.mono Hb.out.size))
      clear hb
      go_wp2_with fail
      go_ret
      exact ⟨rfl, Hb1.out⟩
set_option maxRecDepth 100000 in
set_option maxHeartbeats 2000000 in
theorem i_FormatTokens (D : Nat) (xs : List Tkn) (v : Value) (F : List Nat) (w : World) (hs : SlR 4 (TknR D) w xs v F) (hn : xs.length ≤ 1048576) (hb : sumBy (bulkTkn D) xs ≤ 1048576) (htab : TabIs Tryd.prog w "internal/strconv.uint64pow10" .u64 pow10Tab) :
    Calls Tryd.prog 27 #[v] w fun en w' => en = .returned (.string (fmtToks xs)) ∧ Below w.heap.size w w' := by
  obtain ⟨A, cap, rfl, hlc, hm⟩ := hs.form
  have HF := hide (hs.lt (TknR.good D))
  have Hs := hide hs
  have HT : Hid (∀ W : World, Below w.heap.size w W → TabIs Tryd.prog W "internal/strconv.uint64pow10" .u64 pow10Tab) := hide (tabBelow_of_tabIs htab)
  clear htab
  have Hok : Hid (∀ x ∈ xs, x.ok) := hide fun x hx => by
    obtain ⟨j, hj⟩ := List.mem_iff_getElem?.1 hx
    obtain ⟨b, off, cs, Fk, _, _, _, _, _, _, hR⟩ := SlR.get (TknR.good D) hs hj
    exact hR.2.1
  have Hbk : Hid (bulkS (xs.map tokB) ≤ 1099511627776) := hide (by have := toks_bulk (D := D) Hok.out; omega)
  have hmm : xs.length ≤ 9223372036854775807 := by omega
  have hBw : Below w.heap.size w w := Below.refl _ _
  clear hs hb hm hlc
  go_enter Tryd.func27, Tryd.ntmps27
  go_wp2_with fail
  go_loopw [3, 5, 9] (fun o k5 i wr => ∃ j : Nat, j ≤ xs.length ∧ i = .int .i64 j ∧ Hid (OwnS 1 (StrR 0) w.heap.size 9 wr ((xs.take j).map tokB) o []) ∧ Hid (Below w.heap.size w wr)) (fun _ _ i _ => xs.length - (RowKit.intOf i).toNat)
  case atStart => exact ⟨0, by omega, rfl, hide (show OwnS 1 (StrR 0) w.heap.size _ _ [] _ [] from OwnS.made w (Nat.le_refl _)), hide (hBw.alloc (Nat.le_refl _) _)⟩
  case round =>
    obtain ⟨j, hj, rfl, Ho, Hb⟩ := hrel
    by_cases hlt : j < xs.length
    · have hx : xs[j]? = some xs[j] := List.getElem?_eq_getElem hlt
      generalize xs[j] = x at hx
      obtain ⟨b, off, cs, Fk, hA, _, hbF, hFk, hcl, hcat, hR⟩ := SlR.get (TknR.good D) (Hs.out.below (TknR.good D) Hb.out HF.out) hx
      subst hA
      obtain ⟨c0, c1, c2, c3, rfl⟩ := list4 hcl
      obtain ⟨_, hk, h0, h1, h2, h3, rfl⟩ := hR
      obtain rfl := Option.some.inj h0
      obtain rfl := Option.some.inj h1
      obtain rfl := Option.some.inj h2
      obtain rfl := Option.some.inj h3
      obtain ⟨g0, g1, g2, g3⟩ := hcat.four
      have hblt := Nat.lt_of_lt_of_le (HF.out b hbF) Hb.out.size
      have Hkx := hide hk
      have Hk := hide (tok_next hx)
      have hj0 : (0 : Int) ≤ (j : Int) := by omega
      have hj1 : (j : Int) < (xs.length : Int) := by omega
      have hml : ((xs.take j).map tokB).length ≤ 1048576 := by rw [List.length_map]; exact Nat.le_trans (List.length_take_le' _ _) hn
      have hbase := Hb.out.size
      have Htl : Hid (x.text.size ≤ maxLen) := hide hk.text
      obtain ⟨n0, n1⟩ := wf_i64 hk.n
      have Hns := hide (num_size n0 n1)
      have hbz := Hb.out
      clear hx hcat hFk hbF hcl hk h0 h1 h2 h3
      obtain ⟨k, n, p, t⟩ := x
      simp only at g0 g1 g2 g3 Hk Htl Hns n0 n1
      obtain ⟨C, hz0, hw0⟩ := boxes1 wr [.int .i64 k, .int .i64 n, .int .i64 p, .string t] 48
      have hbV := hbz.trans (hw0.mono hbase)
      clear C hz0
      by_cases hk1 : k = 1
      · subst hk1
        have e : tokB ⟨1, n, p, t⟩ = t := by unfold tokB; simp
        have Ht := hide (show t.size ≤ maxLen from Htl.out)
        go_wp2_with (at_builtin; refine app_ownS rfl (.tmp 21) (.tmp 24) 50 9 rfl Tryd.underlying50 infoStr2 rfl (by decide) (StrR.good 0) wr _ w.heap.size _ ((xs.take j).map tokB) [] Ho.out rfl hw0 (t) [.string (t)] [] ⟨rfl, by exact Ht.out, rfl⟩ (Fresh.nil _ _) (by simp [Value.oneCell']) (by rw [World.size_alloc]; rfl) (by omega) (by omega) (by have := Hb.out.size; omega) ?_; intro v1 w2 hown hbl)
        have Hown := hide hown
        have Hbl := hide (Hb.out.trans hbl)
        clear hown hbl
        go_wp2_with fail
        exact ⟨⟨j + 1, by omega, by go_num, hide (by rw [Hk.out, e]; exact Hown.out), Hbl⟩, by simp [RowKit.intOf]; omega⟩
      by_cases hk3 : k = 3
      · subst hk3
        have e : tokB ⟨3, n, p, t⟩ = t := by unfold tokB; simp
        have Ht := hide (show t.size ≤ maxLen from Htl.out)
        go_wp2_with (at_builtin; refine app_ownS rfl (.tmp 21) (.tmp 24) 50 9 rfl Tryd.underlying50 infoStr2 rfl (by decide) (StrR.good 0) wr _ w.heap.size _ ((xs.take j).map tokB) [] Ho.out rfl hw0 (t) [.string (t)] [] ⟨rfl, by exact Ht.out, rfl⟩ (Fresh.nil _ _) (by simp [Value.oneCell']) (by rw [World.size_alloc]; rfl) (by omega) (by omega) (by have := Hb.out.size; omega) ?_; intro v1 w2 hown hbl)
        have Hown := hide hown
        have Hbl := hide (Hb.out.trans hbl)
        clear hown hbl
        go_wp2_with fail
        exact ⟨⟨j + 1, by omega, by go_num, hide (by rw [Hk.out, e]; exact Hown.out), Hbl⟩, by simp [RowKit.intOf]; omega⟩
      by_cases hk2 : k = 2
      · subst hk2
        have e : tokB ⟨2, n, p, t⟩ = num n := by unfold tokB; simp
        go_wp2_with fail
        refine Calls.mono (i_FormatInt n n0 n1 _ (HT.out _ hbV)) ?_
        rintro en w1 ⟨rfl, hb⟩
        have Hb1 := hide (hw0.trans (hb.mono hw0.size))
        clear hb
        rw [show (⟨(itoa n).toArray⟩ : ByteArray) = num n from rfl]
        go_wp2_with (at_builtin; refine app_ownS rfl (.tmp 28) (.tmp 32) 50 9 rfl Tryd.underlying50 infoStr2 rfl (by decide) (StrR.good 0) wr w1 w.heap.size _ ((xs.take j).map tokB) [] Ho.out rfl Hb1.out (num n) [.string (num n)] [] ⟨rfl, by have := Hns.out; unfold maxLen; omega, rfl⟩ (Fresh.nil _ _) (by simp [Value.oneCell']) rfl (by omega) (by omega) (by have := Hb.out.size; omega) ?_; intro v1 w2 hown hbl)
        have Hown := hide hown
        have Hbl := hide (Hb.out.trans hbl)
        clear hown hbl
        go_wp2_with fail
        exact ⟨⟨j + 1, by omega, by go_num, hide (by rw [Hk.out, e]; exact Hown.out), Hbl⟩, by simp [RowKit.intOf]; omega⟩
      · have t1 : (k == 1) = false := by simpa using hk1
        have t2 : (k == 2) = false := by simpa using hk2
        have t3 : (k == 3) = false := by simpa using hk3
        have e : tokB ⟨k, n, p, t⟩ = ⟨#[]⟩ := by unfold tokB; rw [if_neg (by simp; omega), if_neg (by simpa using hk2)]
        clear hk1 hk2 hk3
        go_wp2_with (at_builtin; refine app_ownS rfl (.tmp 15) (.tmp 16) 50 9 rfl Tryd.underlying50 infoStr2 rfl (by decide) (StrR.good 0) wr _ w.heap.size _ ((xs.take j).map tokB) [] Ho.out rfl hw0 (⟨#[]⟩) [.string (⟨#[]⟩)] [] ⟨rfl, by decide, rfl⟩ (Fresh.nil _ _) (by simp [Value.oneCell']) (by rw [World.size_alloc]; rfl) (by omega) (by omega) (by have := Hb.out.size; omega) ?_; intro v1 w2 hown hbl)
        have Hown := hide hown
        have Hbl := hide (Hb.out.trans hbl)
        clear hown hbl
        go_wp2_with fail
        exact ⟨⟨j + 1, by omega, by go_num, hide (by rw [Hk.out, e]; exact Hown.out), Hbl⟩, by simp [RowKit.intOf]; omega⟩
    · have hjl : j = xs.length := by omega
      subst hjl
      obtain ⟨G, hG, _⟩ := Ho.out.slr (StrR.good 0)
      rw [List.take_length] at hG
      have Hc := hide (i_Join 0 (xs.map tokB) _ G wr hG sp1 (by decide) (by rw [List.length_map]; exact hn) Hbk.out)
      clear hG
      go_wp2_with fail
      refine Calls.mono Hc.out ?_
      rintro en w1 ⟨rfl, hb⟩
      have Hb1 := hide (Hb.out.trans (hb.mono Hb.out.size))
      clear hb
      go_wp2_with fail
      go_ret
      exact ⟨rfl, Hb1.out⟩
end Go.Proofs.YtigdciegnpejoaaDoor
