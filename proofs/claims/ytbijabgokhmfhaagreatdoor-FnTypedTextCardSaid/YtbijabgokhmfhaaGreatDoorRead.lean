/- Numbers read: both sides. Conditions: at most twelve digits; the program's: the library's tables and errors are laid. -/
import Derived.Test.YtbijabgokhmfhaaGreatDoorItoa
namespace Go.Proofs.YtbijabgokhmfhaaGreatDoor
set_option maxRecDepth 100000
open Go.RowKit Go.Lib
set_option linter.unusedVariables false

/-- What a reader hands back. -/
def readV (o : Option Int) : Value := .tuple #[.int .i64 (o.getD 0), .bool o.isSome]
theorem pow12 {j : Nat} (h : j ≤ 12) : 10 ^ j ≤ 1000000000000 := Nat.le_trans (Nat.pow_le_pow_right (by omega) h) (by decide)
theorem dec_step {l : List UInt8} {j acc : Nat} {b : UInt8} (hb : l[j]? = some b) (h : decFrom 0 (l.take j) = some acc) (h0 : 48 ≤ b.toNat) (h1 : b.toNat ≤ 57) : decFrom 0 (l.take (j + 1)) = some (10 * acc + (b.toNat - 48)) := by
  rw [take_snoc hb, decFrom_append, h]
  have hd : digitVal b = some (b.toNat - 48) := by unfold digitVal; rw [if_pos ⟨h0, h1⟩]
  simp only [Option.bind_some, decFrom, hd]
  congr 1
  omega
theorem dec_bad {l : List UInt8} {j acc : Nat} {b : UInt8} (hb : l[j]? = some b) (h : decFrom 0 (l.take j) = some acc) (h0 : ¬ (48 ≤ b.toNat ∧ b.toNat ≤ 57)) : decFrom 0 l = none := by
  have e : l = l.take j ++ (b :: l.drop (j + 1)) := by
    have hj := (List.getElem?_eq_some_iff.1 hb).1
    have hx := (List.getElem?_eq_some_iff.1 hb).2
    rw [← hx, List.getElem_cons_drop, List.take_append_drop]
  have hd : digitVal b = none := by unfold digitVal; rw [if_neg h0]
  rw [e, decFrom_append, h]
  simp only [Option.bind_some, decFrom, hd]
theorem str_eq_iff (l : List UInt8) (s : ByteArray) : ((⟨l.toArray⟩ : ByteArray).toList == s.toList) = decide (l = s.data.toList) := by
  rw [Bool.eq_iff_iff, beq_iff_eq, decide_eq_true_iff, Lib.toList_data, Lib.toList_data]
theorem read_none {s : List UInt8} {most : Nat} (h : (unsign s).length < 1 ∨ most < (unsign s).length ∨ decFrom 0 (unsign s) = none) : readN s most = none := by
  unfold readN
  split
  · rfl
  · rcases h with h | h | h
    · omega
    · omega
    · rw [h]
theorem read_some {s : List UInt8} {most m : Nat} {n : Int} (h1 : 1 ≤ (unsign s).length) (h2 : (unsign s).length ≤ most) (h : decFrom 0 (unsign s) = some m) (hn : n = if signed? s then -(m : Int) else (m : Int)) : readN s most = if itoa n = s then some n else none := by
  unfold readN
  rw [if_neg (by omega), h]
  subst hn
  rfl
set_option maxRecDepth 100000 in
set_option maxHeartbeats 2000000 in
theorem s_l1Read (s : ByteArray) (most : Nat) (hm1 : 1 ≤ most) (hm : most ≤ 12) (hs : s.size ≤ 1048576) (w : World) :
    Calls Tryz.prog 36 #[.string s, .int .i64 most] w fun e w' => e = .returned (readV (readN s.data.toList most)) ∧ Below w.heap.size w w' := by
  have hsz : s.data.toList.length = s.size := bytes_len s
  by_cases h0 : s.size = 0
  · have hl : s.data.toList = [] := List.length_eq_zero_iff.1 (by omega)
    have hr := hide (read_none (s := s.data.toList) (most := most) (by rw [hl]; exact .inl (by decide)))
    clear hl
    go_enter Tryz.func36, Tryz.ntmps36
    go_wp2
    exact bodyPost_ret (v := .tuple #[.int .i64 0, .bool false]) (by simp [results, Tryz.results36, go_sem]) rfl ⟨by rw [hr.out]; rfl, Below.refl _ _⟩
  have hpos : 0 < s.size := by omega
  have hpi : (0 : Int) < (s.size : Int) := by omega
  obtain ⟨b0, r, hl⟩ : ∃ b0 r, s.data.toList = b0 :: r := by
    cases h : s.data.toList with
    | nil => rw [h] at hsz; simp at hsz; omega
    | cons b r => exact ⟨b, r, rfl⟩
  have hb0 : s.data.toList[0]? = some b0 := by rw [hl]; rfl
  have e0 : s[0] = b0 := Option.some.inj ((bytes_at hpos).symm.trans hb0)
  have Hl := hide hl
  clear hl hb0
  by_cases h45 : b0.toNat = 45
  case' pos => have hx0 : (s[0].toNat : Int) = 45 := by rw [e0, h45]; rfl
  case' neg => have hx0 : ((s[0].toNat : Int) == 45) = false := by rw [e0]; simp; omega
  case pos =>
    have Hsg : Hid (signed? s.data.toList = true) := hide (by rw [Hl.out, show b0 = 45 from UInt8.toNat_inj.1 h45]; rfl)
    have Hun : Hid (unsign s.data.toList = r) := hide (by rw [Hl.out, show b0 = 45 from UInt8.toNat_inj.1 h45]; rfl)
    have Hrl : Hid (r.length = s.size - 1) := hide (by have := congrArg List.length Hl.out; rw [hsz] at this; simp at this; omega)
    have Hex : Hid ((s.extract 1 s.size).data.toList = r) := hide (by
      have h2 : (s.extract 1 s.size).data.toList = (s.data.toList.drop 1) := by
        simp [ByteArray.data_extract, Array.toList_extract, List.extract]
        rw [← hsz]
        exact List.take_of_length_le (by simp)
      rw [h2, Hl.out]
      rfl)
    have Hez : Hid ((s.extract 1 s.size).size = s.size - 1) := hide (by simp [ByteArray.size_extract])
    by_cases hlen : 1 ≤ (s.size - 1) ∧ (s.size - 1) ≤ most
    case neg =>
      have Hr := hide (read_none (s := s.data.toList) (most := most) (by rw [Hun.out, Hrl.out]; omega))
      have hd : (decide ((((s.size - 1) : Nat) : Int) < 1) || decide (most < (s.size - 1))) = true := by simp; omega
      go_enter Tryz.func36, Tryz.ntmps36
      go_wp2
      all_goals
        exact bodyPost_ret (v := .tuple #[.int .i64 0, .bool false]) (by simp [results, Tryz.results36, go_sem]) rfl ⟨by rw [Hr.out]; rfl, Below.refl _ _⟩
    obtain ⟨ht1, ht2⟩ := hlen
    have hd1 : decide ((((s.size - 1) : Nat) : Int) < 1) = false := by simp; omega
    have hd2 : decide (most < (s.size - 1)) = false := by simp; omega
    clear h0
    go_enter Tryz.func36, Tryz.ntmps36
    go_wp2
    generalize s.extract 1 s.size = T at Hex Hez ⊢
    generalize hR : r = R at Hun Hrl Hex
    clear hR
    have hTz : T.size = s.size - 1 := Hez.out
    generalize s.size - 1 = tn at ht1 ht2 hd1 hd2 Hrl Hez hTz ⊢
    go_loopw [8, 9] (fun a i wr => ∃ j acc : Nat, j ≤ tn ∧ i = .int .i64 j ∧ a = .int .i64 acc ∧ acc < 1000000000000 ∧ Hid (decFrom 0 (R.take j) = some acc ∧ acc < 10 ^ j) ∧ Hid (Below w.heap.size w wr)) (fun _ i _ => tn - (RowKit.intOf i).toNat)
    case atStart => exact ⟨0, 0, by omega, rfl, rfl, by omega, hide ⟨rfl, by decide⟩, hide (Below.refl _ _)⟩
    case round =>
      obtain ⟨j, acc, hj, rfl, rfl, hacc, HD, Hb⟩ := hrel
      by_cases hlt : j < tn
      · have hjT : j < T.size := by omega
        have hbj : R[j]? = some T[j] := by rw [← Hex.out]; exact bytes_at hjT
        have HB := hide hbj
        clear hbj
        have hbb := byte_lt T[j]
        by_cases hdg : 48 ≤ T[j].toNat ∧ T[j].toNat ≤ 57
        · obtain ⟨g0, g1⟩ := hdg
          have HDs := hide (dec_step HB.out HD.out.1 g0 g1)
          have hp : acc < 100000000000 := Nat.lt_of_lt_of_le HD.out.2 (Nat.le_trans (Nat.pow_le_pow_right (by omega) (show j ≤ 11 by omega)) (by decide))
          have HDp : Hid (10 * acc + (T[j].toNat - 48) < 10 ^ (j + 1)) := hide (by have := HD.out.2; rw [Nat.pow_succ]; omega)
          have hc1 : decide ((T[j].toNat : Int) < 48) = false := by simp; omega
          have hc2 : decide ((57 : Int) < (T[j].toNat : Int)) = false := by simp; omega
          go_wp2
          refine ⟨⟨j + 1, 10 * acc + (T[j].toNat - 48), by omega, by go_num, ?_, by omega, hide ⟨HDs.out, HDp.out⟩, Hb⟩, by simp [RowKit.intOf]; omega⟩
          show Value.int .i64 _ = Value.int .i64 _
          congr 1
          omega
        · have Hr := hide (read_none (s := s.data.toList) (most := most) (by rw [Hun.out]; exact .inr (.inr (dec_bad HB.out HD.out.1 hdg))))
          have hc : (decide ((T[j].toNat : Int) < 48) || decide ((57 : Int) < (T[j].toNat : Int))) = true := by simp; omega
          go_wp2
          all_goals
            exact bodyPost_ret (v := .tuple #[.int .i64 0, .bool false]) (by simp [results, Tryz.results36, go_sem]) rfl ⟨by rw [Hr.out]; rfl, Hb.out⟩
      · have hjl : j = tn := by omega
        have HDe : Hid (decFrom 0 R = some acc) := hide (by have := HD.out.1; rwa [List.take_of_length_le (by have := Hrl.out; omega)] at this)
        clear HD hjl
        have Hrs := hide (read_some (s := s.data.toList) (most := most) (m := acc) (n := (-(acc : Int))) (by rw [Hun.out]; have := Hrl.out; omega) (by rw [Hun.out]; have := Hrl.out; omega) (by rw [Hun.out]; exact HDe.out) (by rw [Hsg.out]; rfl))
        have Hst := hide (str_eq_iff (itoa (-(acc : Int))) s)
        go_wp2_with fail
        refine Calls.mono (s_FormatInt (-(acc : Int)) (by omega) (by omega) wr) ?_
        rintro en w2 ⟨rfl, hb2⟩
        have HB2 := hide (Hb.out.trans (hb2.mono Hb.out.size))
        clear hb2
        generalize (⟨(itoa (-(acc : Int))).toArray⟩ : ByteArray) = N at Hst ⊢
        by_cases hq : itoa (-(acc : Int)) = s.data.toList
        · have hq1 : (N.toList == s.toList) = true := by rw [Hst.out]; exact decide_eq_true hq
          have hq2 : (N.toList != s.toList) = false := by rw [bne, hq1]; rfl
          have Hv : Hid (readN s.data.toList most = some (-(acc : Int))) := hide (by rw [Hrs.out, if_pos hq])
          clear hq
          go_wp2
          exact bodyPost_ret (v := .tuple #[.int .i64 (-(acc : Int)), .bool true]) (by simp [results, Tryz.results36, go_sem]) rfl ⟨by rw [Hv.out]; rfl, HB2.out⟩
        · have hq1 : (N.toList == s.toList) = false := by rw [Hst.out]; exact decide_eq_false hq
          have hq2 : (N.toList != s.toList) = true := by rw [bne, hq1]; rfl
          have Hv : Hid (readN s.data.toList most = none) := hide (by rw [Hrs.out, if_neg hq])
          clear hq
          go_wp2
          exact bodyPost_ret (v := .tuple #[.int .i64 0, .bool false]) (by simp [results, Tryz.results36, go_sem]) rfl ⟨by rw [Hv.out]; rfl, HB2.out⟩
  case neg =>
    have Hsg : Hid (signed? s.data.toList = false) := hide (by
      rw [Hl.out]
      unfold signed?
      split
      · rename_i heq
        injection heq with h _
        exact absurd (by rw [h]; rfl) h45
      · rfl)
    have Hun : Hid (unsign s.data.toList = s.data.toList) := hide (by
      rw [Hl.out]
      unfold unsign
      split
      · rename_i heq
        injection heq with h _
        exact absurd (by rw [h]; rfl) h45
      · rfl)
    have Hrl : Hid (s.data.toList.length = s.size) := hide hsz
    by_cases hlen : 1 ≤ s.size ∧ s.size ≤ most
    case neg =>
      have Hr := hide (read_none (s := s.data.toList) (most := most) (by rw [Hun.out, Hrl.out]; omega))
      have hd : (decide (((s.size : Nat) : Int) < 1) || decide (most < s.size)) = true := by simp; omega
      go_enter Tryz.func36, Tryz.ntmps36
      go_wp2
      all_goals
        exact bodyPost_ret (v := .tuple #[.int .i64 0, .bool false]) (by simp [results, Tryz.results36, go_sem]) rfl ⟨by rw [Hr.out]; rfl, Below.refl _ _⟩
    obtain ⟨ht1, ht2⟩ := hlen
    have hd1 : decide (((s.size : Nat) : Int) < 1) = false := by simp; omega
    have hd2 : decide (most < s.size) = false := by simp; omega
    clear h0
    go_enter Tryz.func36, Tryz.ntmps36
    go_wp2
    have Hex : Hid (s.data.toList = s.data.toList) := hide rfl
    obtain ⟨T, hT⟩ : ∃ T : ByteArray, T = s := ⟨_, rfl⟩
    obtain ⟨R, hR⟩ : ∃ R : List UInt8, R = s.data.toList := ⟨_, rfl⟩
    have Hun2 : Hid (unsign s.data.toList = R) := hide (by rw [Hun.out, hR])
    have Hex2 : Hid (T.data.toList = R) := hide (by rw [hT, hR])
    have HTs := hide hT
    go_loopw [8, 9] (fun a i wr => ∃ j acc : Nat, j ≤ s.size ∧ i = .int .i64 j ∧ a = .int .i64 acc ∧ acc < 1000000000000 ∧ Hid (decFrom 0 (s.data.toList.take j) = some acc ∧ acc < 10 ^ j) ∧ Hid (Below w.heap.size w wr)) (fun _ i _ => s.size - (RowKit.intOf i).toNat)
    case atStart => exact ⟨0, 0, by omega, rfl, rfl, by omega, hide ⟨rfl, by decide⟩, hide (Below.refl _ _)⟩
    case round =>
      obtain ⟨j, acc, hj, rfl, rfl, hacc, HD, Hb⟩ := hrel
      by_cases hlt : j < s.size
      · have hjT : j < s.size := by exact hlt
        have hbj : s.data.toList[j]? = some s[j] := by rw [← Hex.out]; exact bytes_at hjT
        have HB := hide hbj
        clear hbj
        have hbb := byte_lt s[j]
        by_cases hdg : 48 ≤ s[j].toNat ∧ s[j].toNat ≤ 57
        · obtain ⟨g0, g1⟩ := hdg
          have HDs := hide (dec_step HB.out HD.out.1 g0 g1)
          have hp : acc < 100000000000 := Nat.lt_of_lt_of_le HD.out.2 (Nat.le_trans (Nat.pow_le_pow_right (by omega) (show j ≤ 11 by omega)) (by decide))
          have HDp : Hid (10 * acc + (s[j].toNat - 48) < 10 ^ (j + 1)) := hide (by have := HD.out.2; rw [Nat.pow_succ]; omega)
          have hc1 : decide ((s[j].toNat : Int) < 48) = false := by simp; omega
          have hc2 : decide ((57 : Int) < (s[j].toNat : Int)) = false := by simp; omega
          go_wp2
          refine ⟨⟨j + 1, 10 * acc + (s[j].toNat - 48), by omega, by go_num, ?_, by omega, hide ⟨HDs.out, HDp.out⟩, Hb⟩, by simp [RowKit.intOf]; omega⟩
          show Value.int .i64 _ = Value.int .i64 _
          congr 1
          omega
        · have Hr := hide (read_none (s := s.data.toList) (most := most) (by rw [Hun.out]; exact .inr (.inr (dec_bad HB.out HD.out.1 hdg))))
          have hc : (decide ((s[j].toNat : Int) < 48) || decide ((57 : Int) < (s[j].toNat : Int))) = true := by simp; omega
          go_wp2
          all_goals
            exact bodyPost_ret (v := .tuple #[.int .i64 0, .bool false]) (by simp [results, Tryz.results36, go_sem]) rfl ⟨by rw [Hr.out]; rfl, Hb.out⟩
      · have hjl : j = s.size := by omega
        have HDe : Hid (decFrom 0 s.data.toList = some acc) := hide (by have := HD.out.1; rwa [List.take_of_length_le (by have := Hrl.out; omega)] at this)
        clear HD hjl
        have Hrs := hide (read_some (s := s.data.toList) (most := most) (m := acc) (n := (acc : Int)) (by rw [Hun.out]; have := Hrl.out; omega) (by rw [Hun.out]; have := Hrl.out; omega) (by rw [Hun.out]; exact HDe.out) (by rw [Hsg.out]; rfl))
        have Hst := hide (str_eq_iff (itoa (acc : Int)) s)
        go_wp2_with fail
        refine Calls.mono (s_FormatInt (acc : Int) (by omega) (by omega) wr) ?_
        rintro en w2 ⟨rfl, hb2⟩
        have HB2 := hide (Hb.out.trans (hb2.mono Hb.out.size))
        clear hb2
        generalize (⟨(itoa (acc : Int)).toArray⟩ : ByteArray) = N at Hst ⊢
        by_cases hq : itoa (acc : Int) = s.data.toList
        · have hq1 : (N.toList == s.toList) = true := by rw [Hst.out]; exact decide_eq_true hq
          have hq2 : (N.toList != s.toList) = false := by rw [bne, hq1]; rfl
          have Hv : Hid (readN s.data.toList most = some (acc : Int)) := hide (by rw [Hrs.out, if_pos hq])
          clear hq
          go_wp2
          exact bodyPost_ret (v := .tuple #[.int .i64 (acc : Int), .bool true]) (by simp [results, Tryz.results36, go_sem]) rfl ⟨by rw [Hv.out]; rfl, HB2.out⟩
        · have hq1 : (N.toList == s.toList) = false := by rw [Hst.out]; exact decide_eq_false hq
          have hq2 : (N.toList != s.toList) = true := by rw [bne, hq1]; rfl
          have Hv : Hid (readN s.data.toList most = none) := hide (by rw [Hrs.out, if_neg hq])
          clear hq
          go_wp2
          exact bodyPost_ret (v := .tuple #[.int .i64 0, .bool false]) (by simp [results, Tryz.results36, go_sem]) rfl ⟨by rw [Hv.out]; rfl, HB2.out⟩
end Go.Proofs.YtbijabgokhmfhaaGreatDoor
