/- Do all texts of a list differ? Contracts of both sides. Conditions: at most 2^20 texts. -/
import Derived.Test.YtbhgadaphmaplaaSort
namespace Go.Proofs.Ytbhgadaphmaplaa
set_option maxRecDepth 100000
open Go.RowKit Go.WideShapes Go.Sort
set_option linter.unusedVariables false

/-- Do all texts differ? -/
def distinctB (xs : List ByteArray) : Bool := decide ((sortN xs).length = xs.length)
theorem hasS_iff (xs : List ByteArray) (x : ByteArray) : hasS xs x = decide (x.data.toList ∈ xs.map (·.data.toList)) := by
  unfold hasS
  rw [Bool.eq_iff_iff, List.any_eq_true]
  simp only [decide_eq_true_eq, List.mem_map, beq_iff_eq, Lib.toList_data]
theorem sortN_len_eq (xs : List ByteArray) : (sortN xs).length = (sortB (xs.map (·.data.toList))).length := by simp [sortN]
theorem dist_step {xs : List ByteArray} {j : Nat} {x : ByteArray} (hx : xs[j]? = some x) (h : (sortB ((xs.take j).map (·.data.toList))).length = j) (hh : hasS (xs.take j) x = false) : (sortB ((xs.take (j + 1)).map (·.data.toList))).length = j + 1 := by
  have := sortB_len_step (l := xs.map (·.data.toList)) (j := j) (x := x.data.toList) (by rw [List.getElem?_map, hx]; rfl)
  rw [← List.map_take, ← List.map_take] at this
  rw [hasS_iff, decide_eq_false_iff_not] at hh
  rw [this, if_neg hh, h]
theorem dist_stop {xs : List ByteArray} {j : Nat} {x : ByteArray} (hx : xs[j]? = some x) (h : (sortB ((xs.take j).map (·.data.toList))).length = j) (hh : hasS (xs.take j) x = true) : distinctB xs = false := by
  have h1 := sortB_len_step (l := xs.map (·.data.toList)) (j := j) (x := x.data.toList) (by rw [List.getElem?_map, hx]; rfl)
  rw [← List.map_take, ← List.map_take] at h1
  rw [hasS_iff, decide_eq_true_eq] at hh
  rw [if_pos hh, h] at h1
  have hj := (List.getElem?_eq_some_iff.1 hx).1
  have h2 := sortB_len_le (xs.map (·.data.toList)) (xs.length - (j + 1)) (j + 1) (by simp; omega)
  rw [← List.map_take, h1] at h2
  unfold distinctB
  rw [sortN_len_eq]
  simp
  omega
set_option maxRecDepth 100000 in
set_option maxHeartbeats 2000000 in
theorem s_AllDistinct (D : Nat) (xs : List ByteArray) (v : Value) (F : List Nat) (w : World) (hs : SlR 1 (StrR D) w xs v F) (hn : xs.length ≤ 1048576) :
    Calls Try.prog 11 #[v] w fun en w' => en = .returned (.bool (distinctB xs)) ∧ Below w.heap.size w w' := by
  obtain ⟨A, cap, rfl, hlc, _⟩ := hs.form
  obtain ⟨hr, _⟩ := hs.strs
  have HF := hide (hs.lt (StrR.good D))
  have Hs := hide hs
  have Hr := hide hr
  have hlm : xs.length ≤ 9223372036854775807 := by omega
  clear hs hr
  go_enter Try.func11, Try.ntmps11
  go_wp2_with fail
  go_loopw [3] (fun i wr => ∃ j : Nat, j ≤ xs.length ∧ i = .int .i64 j ∧ Hid ((sortB ((xs.take j).map (·.data.toList))).length = j) ∧ Hid (Below w.heap.size w wr)) (fun i _ => xs.length - (intOf i).toNat)
  case atStart => exact ⟨0, by omega, rfl, hide rfl, hide (Below.refl _ _)⟩
  case round =>
    obtain ⟨j, hj, rfl, Hd, Hb⟩ := hrel
    by_cases hlt : j < xs.length
    · have hx : xs[j]? = some xs[j] := List.getElem?_eq_getElem hlt
      generalize xs[j] = x at hx
      obtain ⟨b, off, hA, hbB, hcells⟩ := (Hr.out.below Hb.out).2 (by omega)
      subst hA
      have e0 : wr.cell? ⟨b, off + j, none⟩ = some (.string x) := hcells j _ (by rw [List.getElem?_map, hx]; rfl)
      have HR : Hid (∀ n, Rd (wr.drewN n) w.heap.size (some ⟨b, off, none⟩) j ((xs.take j).map Value.string)) := hide fun n => ⟨by simp; omega, fun _ => ⟨b, off, rfl, hbB, fun k u hu => by
        have hu' : (xs.map Value.string)[k]? = some u := by
          rw [List.map_take, List.getElem?_take] at hu
          split at hu
          · exact hu
          · cases hu
        exact ((below_drewN (Below.refl w.heap.size wr) n).cell (p := ⟨b, off + k, none⟩) hbB).trans (hcells k u hu')⟩⟩
      have hj0 : (0 : Int) ≤ (j : Int) := by omega
      have hj1 : (j : Int) < (xs.length : Int) := by omega
      have hj2 : (j : Int) ≤ (cap : Int) := by omega
      have hjm : j ≤ 9223372036854775807 := by omega
      have HX := hide hx
      clear hx hcells
      have Hq : Hid (∀ n, Calls Try.prog 18 #[.slice (some ⟨b, off, none⟩) j cap, .string x] (wr.drewN n) fun e w' => e = .returned (.bool (hasS (xs.take j) x)) ∧ w' = wr.drewN n) := hide fun n => (s_l1Has (some ⟨b, off, none⟩) j cap x (xs.take j) w.heap.size _ (HR.out n) hjm).mono fun e w' h => ⟨h.1, h.2.symm⟩
      cases hq : hasS (xs.take j) x
      · rw [hq] at Hq
        have Hk := hide (dist_step HX.out Hd.out hq)
        go_wp2_with fail
        go_quiet ((go_at_call 18; exact Calls.quiet_of_same (Hq.out _)))
        go_wp2_with fail
        go_roundw
        case rel => exact ⟨j + 1, by omega, by go_num, Hk, hide (below_drewN Hb.out _)⟩
        case measure => simp [intOf]; omega
      · rw [hq] at Hq
        have Hk := hide (dist_stop HX.out Hd.out hq)
        go_wp2_with fail
        go_quiet ((go_at_call 18; exact Calls.quiet_of_same (Hq.out _)))
        go_wp2_with fail
        go_ret
        exact ⟨ret_bool Hk.out.symm, below_drewN Hb.out _⟩
    · have hjl : j = xs.length := by omega
      subst hjl
      have Hk : Hid (distinctB xs = true) := hide (by
        have h := Hd.out
        rw [List.take_length] at h
        unfold distinctB
        rw [sortN_len_eq, h]
        simp)
      go_wp2_with fail
      go_ret
      exact ⟨ret_bool Hk.out.symm, Hb.out⟩
theorem i_AllDistinct (D : Nat) (xs : List ByteArray) (v : Value) (F : List Nat) (w : World) (hs : SlR 1 (StrR D) w xs v F) (hn : xs.length ≤ 1048576) :
    Calls Try.prog 12 #[v] w fun en w' => en = .returned (.bool (distinctB xs)) ∧ Below w.heap.size w w' := by
  obtain ⟨A, cap, rfl, hlc, _⟩ := hs.form
  have Hs := hide hs
  clear hs
  go_enter Try.func12, Try.ntmps12
  go_wp2_with (go_at_call 14; refine (i_SortNames D xs _ F w Hs.out hn).mono ?_; rintro e w1 ⟨u, G, rfl, hu, hfr, hbl⟩
               obtain ⟨A', cap', rfl, _, _⟩ := hu.form
               have Hbl := hide hbl
               clear hu hfr hbl)
  go_ret
  have h : (((sortN xs).length : Int) == (xs.length : Int)) = distinctB xs := by
    unfold distinctB
    rw [Bool.eq_iff_iff]
    simp only [beq_iff_eq, decide_eq_true_eq]
    omega
  exact ⟨congrArg (fun b => Ending.returned (.bool b)) h, Hbl.out⟩
end Go.Proofs.Ytbhgadaphmaplaa
