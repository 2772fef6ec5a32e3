/- SplitByte: both sides. Conditions: at most 2^20 bytes; the program's: the world has the form that every start has. -/
import Derived.Test.YtilndebjnibgjaaDoorSplit
import Derived.ChangeAgain
import Derived.ShapedOpen
namespace Go.Proofs.YtilndebjnibgjaaDoor
set_option maxRecDepth 100000
open Go.RowKit Go.Lib
set_option linter.unusedVariables false

theorem drop_glue {L : List UInt8} {a j : Nat} {b : UInt8} (ha : a ≤ j) (hb : L[j]? = some b) : (L.drop a).take (j - a) ++ [b] = (L.drop a).take (j + 1 - a) := by
  have h : (L.drop a)[j - a]? = some b := by rw [List.getElem?_drop, show a + (j - a) = j by omega]; exact hb
  rw [show j + 1 - a = (j - a) + 1 by omega, take_snoc h]
theorem drop_at {L : List UInt8} {j : Nat} {b : UInt8} (hb : L[j]? = some b) : L.drop j = b :: L.drop (j + 1) := by
  have hj := (List.getElem?_eq_some_iff.1 hb).1
  have hx := (List.getElem?_eq_some_iff.1 hb).2
  rw [← hx, List.getElem_cons_drop]
theorem split_same {L : List UInt8} {c b : UInt8} {j a : Nat} {ps : List (List UInt8)} (ha : a ≤ j) (hb : L[j]? = some b) (hbc : b = c) (h : splitL L c = ps ++ glue ((L.drop a).take (j - a)) (splitL (L.drop j) c)) :
    splitL L c = (ps ++ [(L.drop a).take (j - a)]) ++ glue ((L.drop (j + 1)).take (j + 1 - (j + 1))) (splitL (L.drop (j + 1)) c) := by
  rw [h, drop_at hb, Nat.sub_self, List.take_zero, glue_nil (splitL_ne c _)]
  have : splitL (b :: L.drop (j + 1)) c = [] :: splitL (L.drop (j + 1)) c := by
    show (if b = c then _ else _) = _
    rw [if_pos hbc]
  rw [this]
  simp [glue]
theorem split_other {L : List UInt8} {c b : UInt8} {j a : Nat} {ps : List (List UInt8)} (ha : a ≤ j) (hb : L[j]? = some b) (hbc : ¬ b = c) (h : splitL L c = ps ++ glue ((L.drop a).take (j - a)) (splitL (L.drop j) c)) :
    splitL L c = ps ++ glue ((L.drop a).take (j + 1 - a)) (splitL (L.drop (j + 1)) c) := by
  rw [h, drop_at hb]
  have : splitL (b :: L.drop (j + 1)) c = glue [b] (splitL (L.drop (j + 1)) c) := by
    show (if b = c then _ else _) = _
    rw [if_neg hbc]
  rw [this, glue_glue _ _ _ (splitL_ne c _), drop_glue ha hb]
theorem split_end {L : List UInt8} {c : UInt8} {j a : Nat} {ps : List (List UInt8)} (hj : j = L.length) (h : splitL L c = ps ++ glue ((L.drop a).take (j - a)) (splitL (L.drop j) c)) : ps ++ [(L.drop a).take (j - a)] = splitL L c := by
  rw [h, List.drop_eq_nil_of_le (by omega : L.length ≤ j)]
  simp [splitL, glue]
theorem extract_toB (s : ByteArray) (a j : Nat) (haj : a ≤ j) (hj : j ≤ s.size) : s.extract a j = toB ((s.data.toList.drop a).take (j - a)) := by
  unfold toB
  apply ByteArray.ext
  apply Array.ext'
  simp [ByteArray.data_extract, Array.toList_extract, List.extract]
theorem toB_size (l : List UInt8) : (toB l).size = l.length := by simp [toB, ByteArray.size]
set_option maxRecDepth 100000 in
set_option maxHeartbeats 2000000 in
theorem s_SplitByte (D : Nat) (s : ByteArray) (c : UInt8) (hs : s.size ≤ 1048576) (w : World) :
    Calls Tryd.prog 30 #[.string s, .int .u8 (c.toNat : Int)] w fun e w' => ∃ v' G, e = .returned v' ∧ SlR 1 (StrR D) w' (splitS s c) v' G ∧ Fresh w.heap.size w' G ∧ Below w.heap.size w w' := by
  have hsz : s.data.toList.length = s.size := bytes_len s
  have Hsz := hide hsz
  clear hsz
  go_enter Tryd.func30, Tryd.ntmps30
  go_wp2_with fail
  go_loopw [5, 6, 7] (fun o f i wr => ∃ (j a : Nat) (ps : List (List UInt8)), i = .int .i64 j ∧ f = .int .i64 a ∧ j ≤ s.size + 1 ∧ a ≤ s.size + 1 ∧ ps.length ≤ j ∧ Hid (OwnS 1 (StrR D) w.heap.size 9 wr (ps.map toB) o []) ∧ Hid ((j ≤ s.size ∧ a ≤ j ∧ splitL s.data.toList c = ps ++ glue ((s.data.toList.drop a).take (j - a)) (splitL (s.data.toList.drop j) c)) ∨ (j = s.size + 1 ∧ ps = splitL s.data.toList c)) ∧ Hid (Below w.heap.size w wr)) (fun _ _ i _ => s.size + 1 - (RowKit.intOf i).toNat)
  case atStart => exact ⟨0, 0, [], rfl, rfl, by omega, by omega, Nat.le_refl _, hide (show OwnS 1 (StrR D) w.heap.size _ _ [] _ [] from OwnS.made w (Nat.le_refl _)), hide (.inl ⟨by omega, Nat.le_refl _, by simp [glue_nil (splitL_ne c _)]⟩), hide ((Below.refl _ _).alloc (Nat.le_refl _) _)⟩
  case round =>
    obtain ⟨j, a, ps, rfl, rfl, hj, hal, hpl, Ho, Hi, Hb⟩ := hrel
    by_cases hjn : j ≤ s.size
    · obtain ⟨haj, Heq⟩ : a ≤ j ∧ Hid (splitL s.data.toList c = ps ++ glue ((s.data.toList.drop a).take (j - a)) (splitL (s.data.toList.drop j) c)) := by
        rcases Hi.out with ⟨_, h1, h2⟩ | ⟨h1, _⟩
        · exact ⟨h1, hide h2⟩
        · omega
      have Hex := hide (extract_toB s a j haj hjn)
      have Hps : Hid ((toB ((s.data.toList.drop a).take (j - a))).size ≤ maxLen) := hide (by
        rw [toB_size, List.length_take, List.length_drop, Hsz.out]
        unfold maxLen
        omega)
      have hbase := Hb.out.size
      have hdj : decide ((j : Int) ≤ (s.size : Int)) = true := by simp; omega
      have hl1 : (ps.map toB).length = ps.length := List.length_map ..
      clear Hi
      by_cases hjl : j = s.size
      · have hje : ((j : Int) == (s.size : Int)) = true := by simp; omega
        have Hend := hide (split_end (by rw [Hsz.out]; exact hjl) Heq.out)
        have Hjl := hide hjl
        clear hjl
        go_wp2_with (at_builtin; rw [Hex.out]; refine app_ownS rfl (.tmp 26) (.tmp 31) 43 9 rfl Tryd.underlying43 infoStr2 rfl (by decide) (StrR.good D) wr wr w.heap.size _ (ps.map toB) [] Ho.out rfl (Below.refl _ _) _ [.string (toB ((s.data.toList.drop a).take (j - a)))] [] ⟨rfl, Hps.out, rfl⟩ (Fresh.nil _ _) (by simp [Value.oneCell']) rfl (by omega) (by omega) hbase ?_; intro v1 w2 hown hbl)
        have Hown := hide hown
        have Hbl := hide hbl
        clear hown hbl
        go_wp2_with fail
        refine ⟨⟨j + 1, j + 1, ps ++ [(s.data.toList.drop a).take (j - a)], by go_num, by go_num, by omega, by omega, by simp; omega, hide (by rw [List.map_append]; exact Hown.out), hide (.inr ⟨by rw [Hjl.out], Hend.out⟩), hide (Hb.out.trans Hbl.out)⟩, by simp [RowKit.intOf]; omega⟩
      · have hlt : j < s.size := by omega
        have hje : ((j : Int) == (s.size : Int)) = false := by simp; omega
        have hbj := hide (bytes_at hlt)
        have hbb := byte_lt s[j]
        by_cases hc : s[j] = c
        · have hce : ((s[j].toNat : Int) == (c.toNat : Int)) = true := by rw [hc]; simp
          have Hst := hide (split_same haj hbj.out hc Heq.out)
          clear hc
          go_wp2_with (at_builtin; rw [Hex.out]; refine app_ownS rfl (.tmp 26) (.tmp 31) 43 9 rfl Tryd.underlying43 infoStr2 rfl (by decide) (StrR.good D) wr wr w.heap.size _ (ps.map toB) [] Ho.out rfl (Below.refl _ _) _ [.string (toB ((s.data.toList.drop a).take (j - a)))] [] ⟨rfl, Hps.out, rfl⟩ (Fresh.nil _ _) (by simp [Value.oneCell']) rfl (by omega) (by omega) hbase ?_; intro v1 w2 hown hbl)
          have Hown := hide hown
          have Hbl := hide hbl
          clear hown hbl
          go_wp2_with fail
          refine ⟨⟨j + 1, j + 1, ps ++ [(s.data.toList.drop a).take (j - a)], by go_num, by go_num, by omega, by omega, by simp; omega, hide (by rw [List.map_append]; exact Hown.out), hide (.inl ⟨by omega, Nat.le_refl _, Hst.out⟩), hide (Hb.out.trans Hbl.out)⟩, by simp [RowKit.intOf]; omega⟩
        · have hce : ((s[j].toNat : Int) == (c.toNat : Int)) = false := by
            rw [beq_eq_false_iff_ne]
            intro h
            exact hc (UInt8.toNat_inj.1 (by omega))
          have Hst := hide (split_other haj hbj.out hc Heq.out)
          clear hc
          go_wp2_with fail
          exact ⟨⟨j + 1, a, ps, by go_num, rfl, by omega, by omega, by omega, Ho, hide (.inl ⟨by omega, by omega, Hst.out⟩), Hb⟩, by simp [RowKit.intOf]; omega⟩
    · have hdj : decide ((j : Int) ≤ (s.size : Int)) = false := by simp; omega
      have hps : ps = splitL s.data.toList c := by
        rcases Hi.out with ⟨h, _⟩ | ⟨_, h⟩
        · omega
        · exact h
      have hO := Ho.out
      rw [hps] at hO
      obtain ⟨G, h1, h2⟩ := hO.slr (StrR.good D)
      have H1 := hide h1
      have H2 := hide h2
      clear h1 h2 hO hps
      go_wp2_with fail
      go_ret
      exact ⟨_, G, rfl, H1.out, H2.out, Hb.out⟩
end Go.Proofs.YtilndebjnibgjaaDoor
