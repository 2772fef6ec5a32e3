/- An integer in decimal: both sides. Conditions: it fits an int; the program's: the library's table of powers is laid. -/
import Derived.Test.YtbijabgokhmfhaaGreatDoorKit
import Derived.Test.YtbijabgokhmfhaaGreatDoorNum
import Derived.Test.YtbijabgokhmfhaaGreatDoorMark
import Derived.Test.YtbijabgokhmfhaaGreatDoorShelf
import Derived.Lib.AppendIntMem
namespace Go.Proofs.YtbijabgokhmfhaaGreatDoor
set_option maxRecDepth 100000
open Go.RowKit Go.Lib
set_option linter.unusedVariables false

def preD (u : Nat) : List UInt8 := if u = 0 then [] else decDigits u
theorem dig_eq {r : Nat} (h : r < 10) : UInt8.ofNat (48 + r) = 48 + UInt8.ofNat r := by
  apply UInt8.toNat_inj.1
  simp [UInt8.toNat_add, UInt8.toNat_ofNat']
theorem preD_step {u : Nat} (h : 0 < u) (out : List UInt8) : preD (u / 10) ++ ((48 + UInt8.ofNat (u % 10)) :: out) = preD u ++ out := by
  rw [← dig_eq (Nat.mod_lt _ (by omega))]
  unfold preD
  rw [if_neg (by omega : ¬ u = 0)]
  by_cases h10 : u < 10
  · rw [if_pos (by omega : u / 10 = 0), decDigits, dif_pos h10, Nat.mod_eq_of_lt h10]
    rfl
  · rw [if_neg (by omega : ¬ u / 10 = 0)]
    conv => rhs; rw [decDigits, dif_neg h10]
    simp
theorem cat1 (b : UInt8) (out : List UInt8) : (⟨#[b]⟩ : ByteArray) ++ ⟨out.toArray⟩ = ⟨(b :: out).toArray⟩ := by
  apply ByteArray.ext
  simp
set_option maxRecDepth 100000 in
theorem s_FormatInt (n : Int) (h0 : -9223372036854775808 ≤ n) (h1 : n ≤ 9223372036854775807) (w : World) :
    Calls Tryz.prog 18 #[.int .i64 n] w fun e w' => e = .returned (.string ⟨(itoa n).toArray⟩) ∧ Below w.heap.size w w' := by
  by_cases hz : n = 0
  · subst hz
    go_enter Tryz.func18, Tryz.ntmps18
    go_wp2
    go_ret
    have h00 : itoa 0 = [48] := by unfold itoa; rw [if_neg (by omega), decDigits, dif_pos (by decide)]; rfl
    exact ⟨ret_string (by rw [h00]), Below.refl _ _⟩
  have hz0 : (n == 0) = false := by simpa using hz
  have Hn0 := hide hz
  go_enter Tryz.func18, Tryz.ntmps18
  go_wp2
  go_loopw [0, 4, 5] (fun a o d wr => ∃ (m : Int) (out : List UInt8), a = .int .i64 m ∧ o = .string ⟨out.toArray⟩ ∧ -9223372036854775808 ≤ m ∧ m ≤ 9223372036854775807 ∧ Hid (preD m.natAbs ++ out = decDigits n.natAbs) ∧ Hid (Below w.heap.size w wr)) (fun a _ _ _ => (RowKit.intOf a).natAbs)
  case atStart => exact ⟨n, [], rfl, rfl, h0, h1, hide (by unfold preD; rw [if_neg (by omega), List.append_nil]), hide (Below.refl _ _)⟩
  case round =>
    obtain ⟨m, out, rfl, rfl, hm0, hm1, Hp, Hb⟩ := hrel
    have hol : out.length ≤ 20 := by
      have h1 := congrArg List.length Hp.out
      rw [List.length_append, decDigits_length] at h1
      have := nDigits_le20 n.natAbs (by omega)
      omega
    by_cases hmz : m = 0
    · subst hmz
      have Hq : Hid (out = decDigits n.natAbs) := hide (by simpa [preD] using Hp.out)
      by_cases hneg : n < 0
      · have hd : decide (n < 0) = true := by simpa using hneg
        have Hr : Hid (itoa n = 45 :: out) := hide (by unfold itoa; rw [if_pos hneg, Hq.out]; try (congr 2; omega))
        go_wp2
        go_ret
        exact ⟨ret_string (by rw [Hr.out]; apply ByteArray.ext; simp), Hb.out⟩
      · have hd : decide (n < 0) = false := by simpa using hneg
        have Hr : Hid (itoa n = out) := hide (by unfold itoa; rw [if_neg hneg, Hq.out]; try (congr 1; omega))
        go_wp2
        go_ret
        exact ⟨ret_string (by rw [Hr.out]), Hb.out⟩
    · have hne : (m != 0) = true := by simpa using hmz
      obtain ⟨u, hu⟩ : ∃ u : Nat, m.natAbs = u := ⟨_, rfl⟩
      rw [hu] at Hp
      have hu0 : 0 < u := by omega
      have Hst := hide (preD_step hu0 out)
      have hr10 : u % 10 < 10 := Nat.mod_lt _ (by omega)
      have hdm := Nat.div_add_mod u 10
      have hdig := run_digit u
      have Hcat := hide (cat1 (48 + UInt8.ofNat (u % 10)) out)
      have Hfin : Hid (preD (u / 10) ++ ((48 + UInt8.ofNat (u % 10)) :: out) = decDigits n.natAbs) := hide (by rw [Hst.out]; exact Hp.out)
      rcases (show m = (u : Int) ∨ m = -(u : Int) by omega) with hm | hm
      · have e1 : Int.tmod m 10 = ((u : Int) % 10) := by rw [hm]; rfl
        have e2 : Int.tdiv m 10 = ((u : Int) / 10) := by rw [hm]; rfl
        have hlt : decide ((u : Int) % 10 < 0) = false := by simp; omega
        have hr0 : 0 ≤ (u : Int) % 10 := by omega
        have hr1 : (u : Int) % 10 < 10 := by omega
        go_wp2
        refine ⟨⟨(u : Int) / 10, (48 + UInt8.ofNat (u % 10)) :: out, by go_num, by rw [← Hcat.out], by omega, by omega, hide (by rw [show ((u : Int) / 10).natAbs = u / 10 by omega]; exact Hfin.out), hide (Hb.out.alloc Hb.out.size _)⟩, by simp [RowKit.intOf]; omega⟩
      · have e1 : Int.tmod m 10 = -((u : Int) % 10) := by rw [hm, Int.neg_tmod]; rfl
        have e2 : Int.tdiv m 10 = -((u : Int) / 10) := by rw [hm, Int.neg_tdiv]; rfl
        have hr0 : 0 ≤ (u : Int) % 10 := by omega
        have hr1 : (u : Int) % 10 < 10 := by omega
        by_cases hz10 : (u : Int) % 10 = 0
        · have hlt : decide (-((u : Int) % 10) < 0) = false := by simp; omega
          have ez : -((u : Int) % 10) = (u : Int) % 10 := by omega
          rw [ez] at e1 hlt
          simp only [hz10, Int.add_zero] at hdig
          clear ez
          go_wp2
          refine ⟨⟨-((u : Int) / 10), (48 + UInt8.ofNat (u % 10)) :: out, by go_num, by rw [← Hcat.out], by omega, by omega, hide (by rw [show (-((u : Int) / 10)).natAbs = u / 10 by omega]; exact Hfin.out), hide (Hb.out.alloc Hb.out.size _)⟩, by simp [RowKit.intOf]; omega⟩
        · have hlt : decide (-((u : Int) % 10) < 0) = true := by simp; omega
          have ez : 0 - -((u : Int) % 10) = (u : Int) % 10 := by omega
          go_wp2
          refine ⟨⟨-((u : Int) / 10), (48 + UInt8.ofNat (u % 10)) :: out, by go_num, by rw [← Hcat.out], by omega, by omega, hide (by rw [show (-((u : Int) / 10)).natAbs = u / 10 by omega]; exact Hfin.out), hide (Hb.out.alloc Hb.out.size _)⟩, by simp [RowKit.intOf]; omega⟩
theorem i_FormatInt (n : Int) (h0 : -9223372036854775808 ≤ n) (h1 : n ≤ 9223372036854775807) (w : World) (htab : TabIs Tryz.prog w "internal/strconv.uint64pow10" .u64 pow10Tab) :
    Calls Tryz.prog 27 #[.int .i64 n] w fun e w' => e = .returned (.string ⟨(itoa n).toArray⟩) ∧ Below w.heap.size w w' := by
  have Ht := hide htab
  clear htab
  go_enter Tryz.func27, Tryz.ntmps27
  go_wp2_with (go_at_call 52; refine (Tryz.strconv_Itoa n h0 h1 _ Ht.out).mono ?_; rintro e w' ⟨rfl, k, os, rfl⟩)
  go_ret
  exact ⟨rfl, below_grow _ _ (Nat.le_refl _) k os⟩
theorem wf_i64 {n : Int} (h : (Lit.int .i64 n).wf = true) : -9223372036854775808 ≤ n ∧ n ≤ 9223372036854775807 := by
  have e1 : IntKind.i64.min = -9223372036854775808 := rfl
  have e2 : IntKind.i64.max = 9223372036854775807 := rfl
  simp [Lit.wf, e1, e2] at h
  omega
theorem tab_pow10 {r : List (String × DataW Unit)} {w : World} (h : laidMet Tryz.prog (("internal/strconv.uint64pow10", tabData .u64 pow10Tab) :: r) w) : TabIs Tryz.prog w "internal/strconv.uint64pow10" .u64 pow10Tab :=
  tabIs_of_head (g := (Tryz.prog.globalNamed "internal/strconv.uint64pow10").getD 0) (t := 118) (e := 101) (n := 20) (by kernel_rfl) (by kernel_rfl) Tryz.underlying118 Tryz.underlying101 (by kernel_rfl) (by kernel_rfl) h
end Go.Proofs.YtbijabgokhmfhaaGreatDoor
