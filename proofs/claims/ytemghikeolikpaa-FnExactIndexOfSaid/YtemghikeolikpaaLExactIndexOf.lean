/- The law FnExactIndexOf: whatever the arguments, the call returns true and leaves the arguments as they were. Conditions: none. -/
import Derived.Test.YtemghikeolikpaaRows
import Derived.Test.YtemghikeolikpaaKit
import Derived.Test.YtemghikeolikpaaStrs
namespace Go.Proofs.Ytemghikeolikpaa.fnExactIndexOf
open Go.ChangeShapes Go.WideShapes Go.ChangeAt Go.RowKit
set_option linter.unusedVariables false

theorem own : ownKnob Try.prog.godebug = none := by kernel_rfl

theorem walk (w : World) (A : Option Addr) (n c : Nat) (xs : List ByteArray) (l : n ≤ c) (m : c ≤ maxLen) (hr : Rd w w.heap.size A n (xs.map Value.string)) (hs : ∀ z ∈ xs, z.size ≤ maxLen) (s : ByteArray) (ws : s.size ≤ maxLen) :
    Calls Try.prog 6 #[.slice A n c, .string s] w fun e w' => e = .returned (.bool true) ∧ Below w.heap.size w w' := by
  unfold maxLen at m
  by_cases hb : 1048576 < (s.size : Int)
  · go_enter Try.func6, Try.ntmps6
    go_wp2_with fail
    go_ret
    exact ⟨rfl, Below.refl _ _⟩
  · go_enter Try.func6, Try.ntmps6
    go_wp2_with fail
    refine (l_szStringS A n c 1048576 xs _ w hr (by omega) hs (by omega) (by omega)).mono ?_
    rintro e w1 ⟨⟨r, rfl, hsz⟩, rfl⟩
    rcases hsz with rfl | ⟨hr0, hr1⟩
    · go_wp2_with fail
      go_ret
      exact ⟨rfl, Below.refl _ _⟩
    · have hbk := bulkS_nonneg xs
      have hn : n ≤ 1048576 := by omega
      clear hr1 hbk
      have hlen := hr.len
      go_wp2_with fail
      refine (l_toStringS A n c xs _ w hr hn (Nat.le_refl _)).mono ?_
      rintro e w1 ⟨rfl, hk1, hb1⟩
      have hr1 := Rd.blk hk1
      rw [List.length_map, hlen] at hr1
      go_wp2_with fail
      refine (s_IndexOf _ _ _ _ _ _ _ hr1 (by omega)).mono ?_
      rintro e w1' ⟨rfl, rfl⟩
      go_wp2_with fail
      refine (l_toStringS A n c xs _ w1 (hr.below hb1) hn hb1.size).mono ?_
      rintro e w2 ⟨rfl, hk2, hb2⟩
      have hr2 := Rd.blk hk2
      rw [List.length_map, hlen] at hr2
      have hB2 := hb1.trans (hb2.mono hb1.size)
      go_wp2_with fail
      refine (i_IndexOf _ _ _ _ _ _ _ hr2 (by omega)).mono ?_
      rintro e w2' ⟨rfl, rfl⟩
      go_wp2_with fail
      refine (l_toStringS A n c xs _ w2 (hr.below hB2) hn hB2.size).mono ?_
      rintro e w3 ⟨rfl, hk3, hb3⟩
      have hr3 := Rd.blk hk3
      rw [List.length_map, hlen] at hr3
      have hB3 := hB2.trans (hb3.mono hB2.size)
      go_wp2_with fail
      refine (l_eqStringS _ _ _ _ _ _ xs xs _ _ _ (hr2.below hb3) hr3 (by omega) (by omega)).mono ?_
      rintro e w4 ⟨rfl, hb4⟩
      have hB4 := hB3.trans (hb4.mono hB3.size)
      rw [decide_eq_true rfl]
      go_wp2_with fail
      go_ret
      exact ⟨rfl, hB4⟩

set_option maxRecDepth 100000 in
theorem lifted (os : Os) (started : os.Started) (H : Type) (enc : TypeId × Value → H) :
    ReturnsInHanded {} Try.checked os 6 .any (Rows.fnExactIndexOfSpec.pre6 enc Try.prog Try.f6 Rows.fnExactIndexOfRow.domain false) (Rows.fnExactIndexOfSpec.post enc Try.prog Try.f6 false true false false) := by
  refine returnsInHanded_of_change (C := Try.checked) own started (by kernel_rfl) Try.func6
    (ChangeSpec.witness6 (enc := enc) (C := Try.checked) false ⟨#[], #[.slice none 0 0, .string ByteArray.empty], []⟩ 12 (by kernel_rfl) (by kernel_rfl) (by kernel_rfl) (by kernel_rfl)) ?_
  intro W base args ds gs before hval0 hW hcnd _
  have hval : ∀ (j : Nat) t v, Try.f6.params[j]? = some t → args[j]? = some v → Value.okWide Try.prog W .any base t v := hval0
  have hW' := hW
  obtain ⟨p, q, hA0, hV, rfl, hfz, hnd⟩ := hW
  have hA : DataW.TrodAll enc Try.prog W 0 (fun _ => true) true Try.f6.params.toList args.toList ds p := hA0
  rw [Try.params6] at hA hval
  obtain ⟨v0, vs0, d0, ds0, p0, q0, hargs, rfl, rfl, h0, r0x⟩ := trodAll_cons hA
  obtain ⟨v1, vs1, d1, ds1, p1, q1, rfl, rfl, rfl, h1, r1x⟩ := trodAll_cons r0x
  obtain ⟨rfl, rfl, rfl⟩ := trodAll_nil r1x
  obtain rfl : args = #[v0, v1] := by cases args; simp_all
  obtain ⟨rfl, rfl⟩ := trodVars_none hV
  obtain ⟨A0, n0, c0, z0, rfl, l0, m0, r0, w0⟩ := open_strsR Try.underlying30 Try.underlying9 (by kernel_rfl) (hval 0 30 v0 rfl rfl) h0
  obtain ⟨a1, rfl, rfl, rfl, w1⟩ := ChangeMaps.open_string Try.underlying9 (hval 1 9 v1 rfl rfl) h1
  clear hA0 hval0
  refine (walk W A0 n0 c0 z0 l0 m0 r0 w0 a1 w1).mono fun e W' ⟨he, hb⟩ => ?_
  exact ⟨_, he, law_post (gs := []) hW' hb (by kernel_rfl) (by kernel_rfl) (by kernel_rfl) Try.underlying4 rfl rfl⟩

theorem over : Rows.fnExactIndexOfRow.holds Try.pinned (OpenSpec.ofChange Rows.fnExactIndexOfSpec) :=
  OpenClaim.holds_of_wide 6 Try.f6 rfl rfl rfl rfl rfl rfl rfl ⟨rfl, rfl, rfl, rfl, rfl⟩ rfl rfl rfl rfl rfl (by kernel_rfl) Try.func6 (by kernel_rfl)
    (of_decide_eq_true (by kernel_rfl)) (by unfold Func.isWrapper; first | (rw [if_pos (by decide +kernel)]; kernel_rfl) | (rw [if_neg (by decide +kernel)]; exact ⟨rfl, rfl⟩))
    (fun os started H enc _ => lifted os started H enc)

/-- The statement. -/
theorem proved : Rows.FnExactIndexOfSaid := over
#print axioms proved
end Go.Proofs.Ytemghikeolikpaa.fnExactIndexOf
