/- Values read from their text: small facts for both walks. Plain: no program. -/
import Derived.Test.YtbijabgokhmfhaaGreatDoorTypP
namespace Go.Proofs.YtbijabgokhmfhaaGreatDoor
set_option maxRecDepth 100000
open Go.RowKit Go.Lib
set_option linter.unusedVariables false

/-- What a reader of a value hands back. -/
def tupT (r : Int × Bool) : Value := .tuple #[.int .i64 r.1, .bool r.2]
theorem parse_empty {s : ByteArray} {k : Int} (h : (s.toList == []) = true) : parseT s k = (0, false) := by
  have hz : s.size = 0 := by
    have h1 : s.toList = [] := by simpa using h
    rw [Lib.toList_data] at h1
    rw [size_data, h1]
    rfl
  unfold parseT parseW
  rw [if_neg fun q => q.1 hz]
theorem ne_empty {s : ByteArray} (h : (s.toList == []) = false) : s.size ≠ 0 := fun hz => by
  have h1 : s.toList ≠ [] := by simpa using h
  apply h1
  rw [Lib.toList_data]
  exact List.length_eq_zero_iff.1 (by rw [← size_data]; exact hz)
theorem fmt_eq {a s : ByteArray} (h : (a.toList == s.toList) = true) : a = s := by
  have h1 := beq_iff_eq.1 h
  rw [Lib.toList_data, Lib.toList_data] at h1
  apply ByteArray.ext
  exact Array.toList_inj.1 h1
theorem fmt_ne {a s : ByteArray} (h : (a.toList == s.toList) = false) : a ≠ s := fun e => by
  rw [e] at h
  simp at h
theorem parse_yes {s : ByteArray} {k v : Int} (hv : valS s k = v) (hs : s.size ≠ 0) (h : ((fmtTyped v k).toList == s.toList) = true) : parseT s k = (v, true) := by
  unfold parseT parseW
  rw [hv, if_pos ⟨hs, fmt_eq h⟩]
theorem parse_no {s : ByteArray} {k v : Int} (hv : valS s k = v) (h : ((fmtTyped v k).toList == s.toList) = false) : parseT s k = (0, false) := by
  unfold parseT parseW
  rw [hv, if_neg fun q => fmt_ne h q.2]
theorem parseI_yes {s : ByteArray} {k v : Int} (hv : valI s k = v) (hs : s.size ≠ 0) (h : ((fmtTyped v k).toList == s.toList) = true) : parseT s k = (v, true) := by
  rw [← parse_eq]
  unfold parseW
  rw [hv, if_pos ⟨hs, fmt_eq h⟩]
theorem parseI_no {s : ByteArray} {k v : Int} (hv : valI s k = v) (h : ((fmtTyped v k).toList == s.toList) = false) : parseT s k = (0, false) := by
  rw [← parse_eq]
  unfold parseW
  rw [hv, if_neg fun q => fmt_ne h q.2]
theorem numIn_bd (s : List UInt8) (lo hi : Int) (h0 : -9223372036854775808 ≤ lo) (h1 : hi ≤ 9223372036854775807) : -9223372036854775808 ≤ (numIn s lo hi).getD 0 ∧ (numIn s lo hi).getD 0 ≤ 9223372036854775807 := by
  cases h : numIn s lo hi with
  | none => exact ⟨by decide, by decide⟩
  | some n =>
    obtain ⟨_, h2, h3⟩ := numIn_iff.1 h
    show -9223372036854775808 ≤ n ∧ n ≤ _
    omega
theorem ext_size (s : ByteArray) (a b : Nat) : (s.extract a b).size ≤ s.size := by rw [ByteArray.size_extract]; omega
theorem cutH_size (s : ByteArray) : (cutH s).size ≤ s.size := by
  unfold cutH trimPrefix
  rw [size_data, size_data s]
  split
  · rw [List.length_drop]; omega
  · exact Nat.le_refl _
theorem dropW_len (p : UInt8 → Bool) : ∀ l : List UInt8, (l.dropWhile p).length ≤ l.length
  | [] => Nat.le_refl _
  | b :: r => by
    unfold List.dropWhile
    split
    · have := dropW_len p r; simp only [List.length_cons]; omega
    · exact Nat.le_refl _
theorem trimB_size (s : ByteArray) : (trimB s).size ≤ s.size := by
  unfold trimB trimS trimLeftS trimRightS
  rw [size_data, size_data s]
  refine Nat.le_trans (dropW_len _ _) ?_
  rw [List.length_reverse]
  refine Nat.le_trans (dropW_len _ _) ?_
  rw [List.length_reverse]
  exact Nat.le_refl _
theorem s_l3Truth (b : Bool) (w : World) : Calls Tryz.prog 14 #[.bool b] w fun e w' => e = .returned (.int .i64 (if b then 1 else 0)) ∧ w = w' := by
  cases b
  all_goals
    go_enter Tryz.func14, Tryz.ntmps14
    go_wp2
    go_ret
    exact ⟨rfl, rfl⟩
theorem i_flag (b : Bool) (w : World) : Calls Tryz.prog 20 #[.bool b] w fun e w' => e = .returned (.int .i64 (if b then 1 else 0)) ∧ w = w' := by
  cases b
  all_goals
    go_enter Tryz.func20, Tryz.ntmps20
    go_wp2
    go_ret
    exact ⟨rfl, rfl⟩
theorem setS_no {ws : List ByteArray} {j : Nat} (h : hasS ws (num (j : Int)) = false) : setS ws (j + 1) = setS ws j := by
  unfold setS
  rw [List.range_succ, List.foldl_append]
  show orS ws _ j = _
  unfold orS
  rw [h]
  rfl
theorem setS_yes {ws : List ByteArray} {j : Nat} (h : hasS ws (num (j : Int)) = true) : setS ws (j + 1) = bits .or .i64 (setS ws j) (2 ^ j) := by
  unfold setS
  rw [List.range_succ, List.foldl_append]
  show orS ws _ j = _
  unfold orS
  rw [h]
  rfl
theorem setS_bd (ws : List ByteArray) : ∀ j, -9223372036854775808 ≤ setS ws j ∧ setS ws j ≤ 9223372036854775807
  | 0 => by show -9223372036854775808 ≤ (0 : Int) ∧ (0 : Int) ≤ 9223372036854775807; decide
  | j + 1 => by
    unfold setS
    rw [List.range_succ, List.foldl_append]
    exact orS_bd ws (setS_bd ws j) j
theorem setI_bd (ws : List ByteArray) : -9223372036854775808 ≤ setI ws ∧ setI ws ≤ 9223372036854775807 := by
  have : ∀ (l : List ByteArray) (a : Int), -9223372036854775808 ≤ a ∧ a ≤ 9223372036854775807 → -9223372036854775808 ≤ l.foldl orW a ∧ l.foldl orW a ≤ 9223372036854775807 := fun l => by
    induction l with
    | nil => exact fun _ h => h
    | cons x r ih => exact fun a h => ih _ (orW_bd h x)
  exact this ws 0 ⟨by decide, by decide⟩
theorem wrap_pow {j : Nat} (h : j < 12) : wrap64 ((2 : Int) ^ j) = 2 ^ j := by
  have hp : (2 : Nat) ^ j ≤ 2 ^ 11 := Nat.pow_le_pow_right (by omega) (by omega)
  have e : ((2 : Int) ^ j) = ((2 ^ j : Nat) : Int) := by simp
  rw [e]
  generalize 2 ^ j = q at hp ⊢
  unfold wrap64
  omega
/-- A word's number taken into a set. -/
def orN (a : Int) (o : Option Int) : Int := match o with
  | some k => if k ≤ 11 then bits .or .i64 a (2 ^ k.toNat) else a
  | none => a
theorem setI_step {ws : List ByteArray} {j : Nat} {x : ByteArray} {a : Int} (hx : ws[j]? = some x) (ha : setI (ws.take j) = a) : setI (ws.take (j + 1)) = orN a (numIn x.data.toList 0 999999) := by
  unfold setI at ha ⊢
  rw [List.take_add_one, hx, Option.toList_some, List.foldl_append, ha]
  rfl
theorem orN_yes {a : Int} {n : Nat} (h : n ≤ 11) : orN a (some (n : Int)) = bits .or .i64 a (2 ^ n) := by
  show (if (n : Int) ≤ 11 then bits .or .i64 a (2 ^ (n : Int).toNat) else a) = _
  rw [if_pos (by omega), Int.toNat_natCast]
theorem orN_no {a : Int} {n : Nat} (h : ¬ n ≤ 11) : orN a (some (n : Int)) = a := by
  show (if (n : Int) ≤ 11 then bits .or .i64 a (2 ^ (n : Int).toNat) else a) = _
  rw [if_neg (by omega)]
end Go.Proofs.YtbijabgokhmfhaaGreatDoor
