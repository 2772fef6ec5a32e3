/- The law FnExactHasRemote: whatever the arguments, the call returns true and leaves the arguments as they were. Conditions: none. -/
import Derived.Test.YtadfbidgbeoggaaRows
import Derived.Test.YtadfbidgbeoggaaKit
import Derived.Test.YtadfbidgbeoggaaExFns
namespace Go.Proofs.Ytadfbidgbeoggaa.fnExactHasRemote
open Go.ChangeShapes Go.WideShapes Go.ChangeAt Go.RowKit
set_option linter.unusedVariables false

theorem own : ownKnob Try.prog.godebug = none := by kernel_rfl

set_option maxRecDepth 100000 in
theorem walk (w : World) (D : Nat) (e : Ex) (cs : List Value) (F : List Nat) (h : ExR D w e cs F) : Calls Try.prog 5 #[.agg cs.toArray] w fun en w' => en = .returned (.bool true) ∧ Below w.heap.size w w' := by
  match D, h with
  | d + 1, h =>
  obtain ⟨A, cap, rfl, hok, hl, hm, hs⟩ := ex_form h
  have HF := hide ((ExR.good (d + 1)).lt h)
  obtain ⟨⟨k, n, p, t, s, m⟩, l⟩ := e
  simp only [Ex.args, Ex.h, ExH.cells] at h hs hl HF
  show Calls _ _ #[.agg #[.int .i64 k, .int .i64 n, .int .i64 p, .int .i64 t, .string s, .string m, .slice A l.length cap]] w _
  generalize hbx : Obj.cells #[.int .i64 k, .int .i64 n, .int .i64 p, .int .i64 t, .string s, .string m, .slice A l.length cap] 24 = bx
  have HC := hide (CellsAt.new w [.int .i64 k, .int .i64 n, .int .i64 p, .int .i64 t, .string s, .string m, .slice A l.length cap] 24)
  rw [hbx] at HC
  obtain ⟨c0, c1, c2, c3, c4, c5, c6⟩ := HC.out.seven0
  have H := hide h
  have HTo : Hid (bulkE (d + 1) (.mk ⟨k, n, p, t, s, m⟩ l) ≤ 1048576 → ∀ W : World, Below w.heap.size w W → Calls Try.prog 16 #[.agg #[.int .i64 k, .int .i64 n, .int .i64 p, .int .i64 t, .string s, .string m, .slice A l.length cap]] W fun en w' => ∃ A' cap' F', en = .returned (.agg #[.int .i64 k, .int .i64 n, .int .i64 p, .int .i64 t, .string s, .string m, .slice A' l.length cap']) ∧
      ExR (d + 1) w' (.mk ⟨k, n, p, t, s, m⟩ l) [.int .i64 k, .int .i64 n, .int .i64 p, .int .i64 t, .string s, .string m, .slice A' l.length cap'] F' ∧ Fresh W.heap.size w' F' ∧ Below W.heap.size W w') := hide fun hbk W hW =>
    l_toExpr (d + 1) (.mk ⟨k, n, p, t, s, m⟩ l) _ F W ((ExR.good (d + 1)).below h hW HF.out) (slim_of_bulk hbk)
  generalize Ex.mk ⟨k, n, p, t, s, m⟩ l = e at H HTo
  have HR : Hid (∀ W : World, Below w.heap.size w W → ExR (d + 1) W e [.int .i64 k, .int .i64 n, .int .i64 p, .int .i64 t, .string s, .string m, .slice A l.length cap] F) := hide fun W hW => (ExR.good (d + 1)).below H.out hW HF.out
  have hW1 : Below w.heap.size w (w.alloc bx) := (Below.refl _ _).alloc (Nat.le_refl _) _
  have Hsz := hide (l_szExpr (d + 1) e _ F (w.alloc bx) 1048576 (HR.out _ hW1) (by omega) (by omega))
  clear h hs hok hl hm hW1
  go_enter Try.func5, Try.ntmps5
  go_wp2_with fail
  refine Calls.mono Hsz.out ?_
  rintro en w2 ⟨⟨r, rfl, hr⟩, hb2⟩
  rw [World.size_alloc] at hb2
  obtain ⟨c0, c1, c2, c3, c4, c5, c6⟩ := (HC.out.below hb2 (by omega)).seven0
  have HB2 := hide hb2
  clear hb2
  rcases hr with rfl | ⟨hr0, hr1⟩
  · go_wp2_with fail
    go_ret
    exact ⟨rfl, box_below HB2.out⟩
  · have Hbulk : Hid (bulkE (d + 1) e ≤ 1048576) := hide (by omega)
    have HTo := hide (HTo.out Hbulk.out)
    have Hrefl := hide (eqE_refl (d + 1) e)
    clear hr1
    go_wp2_with fail
    refine Calls.mono (HTo.out _ (box_below HB2.out)) ?_
    rintro en w3 ⟨A1, cap1, F1, rfl, hR1, hf1, hb3⟩
    have HB3 : Hid (Below (w.heap.size + 1) (w.alloc bx) w3) := hide (HB2.out.trans (hb3.mono (by have := HB2.out.size; rw [World.size_alloc] at this; omega)))
    have HR1 := hide hR1
    have hlt1 : ∀ b ∈ F1, b < w3.heap.size := hf1.lt
    have HL1 := hide hlt1
    clear hR1 hf1 hlt1
    go_wp2_with fail
    refine Calls.mono (s_HasRemote (d + 1) e _ F1 _ HR1.out) ?_
    rintro en w4 ⟨rfl, hb4⟩
    have HB4 : Hid (Below (w.heap.size + 1) (w.alloc bx) w4) := hide (HB3.out.trans (hb4.mono (by have := HB3.out.size; rw [World.size_alloc] at this; omega)))
    clear hb4 hb3
    obtain ⟨c0, c1, c2, c3, c4, c5, c6⟩ := (HC.out.below HB4.out (by omega)).seven0
    go_wp2_with fail
    refine Calls.mono (HTo.out _ (box_below HB4.out)) ?_
    rintro en w5 ⟨A2, cap2, F2, rfl, hR2, hf2, hb5⟩
    have HB5 : Hid (Below (w.heap.size + 1) (w.alloc bx) w5) := hide (HB4.out.trans (hb5.mono (by have := HB4.out.size; rw [World.size_alloc] at this; omega)))
    have HR2 := hide hR2
    have hlt2 : ∀ b ∈ F2, b < w5.heap.size := hf2.lt
    have HL2 := hide hlt2
    clear hR2 hf2 hlt2
    go_wp2_with fail
    have HC5 : Hid (CellsAt (w5.alloc (.cells #[.int .i64 k, .int .i64 n, .int .i64 p, .int .i64 t, .string s, .string m, .slice A2 l.length cap2] 29)) w5.heap.size 0 [.int .i64 k, .int .i64 n, .int .i64 p, .int .i64 t, .string s, .string m, .slice A2 l.length cap2]) := hide (CellsAt.new w5 [.int .i64 k, .int .i64 n, .int .i64 p, .int .i64 t, .string s, .string m, .slice A2 l.length cap2] _)
    have hR5 : ExR (d + 1) (w5.alloc (.cells #[.int .i64 k, .int .i64 n, .int .i64 p, .int .i64 t, .string s, .string m, .slice A2 l.length cap2] 29)) e [.int .i64 k, .int .i64 n, .int .i64 p, .int .i64 t, .string s, .string m, .slice A2 l.length cap2] F2 := (ExR.good (d + 1)).below HR2.out ((Below.refl _ _).alloc (Nat.le_refl _) _) HL2.out
    refine Calls.mono (i_HasRemote (d + 1) e _ F2 _ hR5) ?_
    rintro en w6 ⟨rfl, hb6⟩
    rw [World.size_alloc] at hb6
    have hz5 := HB5.out.size
    have hz6 := hb6.size
    rw [World.size_alloc] at hz5 hz6
    have HB6 : Hid (Below (w.heap.size + 1) (w.alloc bx) w6) := hide (HB5.out.trans (((Below.refl _ _).alloc (Nat.le_refl _) _ |>.mono (by omega)).trans (hb6.mono (by omega))))
    have HR6 : Hid (ExR (d + 1) w6 e [.int .i64 k, .int .i64 n, .int .i64 p, .int .i64 t, .string s, .string m, .slice A2 l.length cap2] F2) := hide ((ExR.good (d + 1)).below hR5 hb6 (fun b hb => by have := HL2.out b hb; omega))
    obtain ⟨c0, c1, c2, c3, c4, c5, c6⟩ := (HC.out.below HB6.out (by omega)).seven0
    obtain ⟨x0, x1, x2, x3, x4, x5, x6⟩ := (HC5.out.below hb6 (by omega)).seven0
    have Hb6 := hide hb6
    clear hb6 hR5 hb5
    have HL6 : Hid (∀ b ∈ F2, b < w6.heap.size) := hide (fun b hb => by have := HL2.out b hb; omega)
    have hza : w.heap.size < w6.heap.size := by omega
    have hzb : w5.heap.size < w6.heap.size := by omega
    go_wp2_with fail
    go_region_held3 (fun w' => w'.cell? ⟨w.heap.size, 0, none⟩ = some (.int .i64 k) ∧ w'.cell? ⟨w.heap.size, 1, none⟩ = some (.int .i64 n) ∧ w'.cell? ⟨w.heap.size, 2, none⟩ = some (.int .i64 p) ∧ w'.cell? ⟨w.heap.size, 3, none⟩ = some (.int .i64 t) ∧ w'.cell? ⟨w.heap.size, 4, none⟩ = some (.string s) ∧ w'.cell? ⟨w.heap.size, 5, none⟩ = some (.string m) ∧ w'.cell? ⟨w.heap.size, 6, none⟩ = some (.slice A l.length cap) ∧ w'.cell? ⟨w5.heap.size, 0, none⟩ = some (.int .i64 k) ∧ w'.cell? ⟨w5.heap.size, 1, none⟩ = some (.int .i64 n) ∧ w'.cell? ⟨w5.heap.size, 2, none⟩ = some (.int .i64 p) ∧ w'.cell? ⟨w5.heap.size, 3, none⟩ = some (.int .i64 t) ∧ w'.cell? ⟨w5.heap.size, 4, none⟩ = some (.string s) ∧ w'.cell? ⟨w5.heap.size, 5, none⟩ = some (.string m) ∧ w'.cell? ⟨w5.heap.size, 6, none⟩ = some (.slice A2 l.length cap2))
      (first
        | go_keep
        | (go_split_ands; (repeat' apply And.intro) <;> first | exact (hb7.cell (p := ⟨w.heap.size, _, none⟩) hza).trans (by assumption) | exact (hb7.cell (p := ⟨w5.heap.size, _, none⟩) hzb).trans (by assumption))
        | (go_split_ands; (repeat' apply And.intro) <;> first | exact (hb8.cell (p := ⟨w.heap.size, _, none⟩) (Nat.lt_of_lt_of_le hza hz7)).trans (by assumption) | exact (hb8.cell (p := ⟨w5.heap.size, _, none⟩) (Nat.lt_of_lt_of_le hzb hz7)).trans (by assumption)))
      (first
        | (go_at_call 16; refine Calls.mono (HTo.out _ ?hw) ?_; (case hw => (repeat (first | exact box_below HB6.out | apply Below.drew))); rintro en w7 ⟨A3, cap3, F3, rfl, hR3, hf3, hb7⟩; have hz7 : w6.heap.size ≤ w7.heap.size := hb7.size; have HR3 := hide hR3; clear hR3 hf3)
        | (go_at_call 18; refine Calls.mono (l_eqExpr (d + 1) e e _ _ F2 F3 _ (below_drew_of (ExR.good (d + 1)) HR6.out hb7 (fun b hb => HL6.out b hb) rfl) HR3.out) ?_; rintro en w8 ⟨rfl, hb8⟩; rw [Hrefl.out]))
    have HB8 : Hid (Below w.heap.size w w8) := hide ((show Below w.heap.size w _ from by repeat (first | exact box_below HB6.out | apply Below.drew)).trans ((hb7.mono (by show w.heap.size ≤ w6.heap.size; omega)).trans (hb8.mono (by omega))))
    clear hb7 hb8

    go_wp2_with fail
    go_ret
    exact ⟨rfl, HB8.out⟩

set_option maxRecDepth 100000 in
theorem lifted (os : Os) (started : os.Started) (H : Type) (enc : TypeId × Value → H) :
    ReturnsInHanded {} Try.checked os 5 .any (Rows.fnExactHasRemoteSpec.pre6 enc Try.prog Try.f5 Rows.fnExactHasRemoteRow.domain false) (Rows.fnExactHasRemoteSpec.post enc Try.prog Try.f5 false true false false) := by
  refine returnsInHanded_of_change (C := Try.checked) own started (by kernel_rfl) Try.func5
    (ChangeSpec.witness6 (enc := enc) (C := Try.checked) false ⟨#[], #[.agg #[.int .i64 0, .int .i64 0, .int .i64 0, .int .i64 0, .string ByteArray.empty, .string ByteArray.empty, .slice none 0 0]], []⟩ 12 (by kernel_rfl) (by kernel_rfl) (by kernel_rfl) (by kernel_rfl)) ?_
  intro W base args ds gs before hval0 hW hcnd _
  have hval : ∀ (j : Nat) t v, Try.f5.params[j]? = some t → args[j]? = some v → Value.okWide Try.prog W .any base t v := hval0
  have hW' := hW
  obtain ⟨p, q, hA0, hV, rfl, hfz, hnd⟩ := hW
  have hA : DataW.TrodAll enc Try.prog W 0 (fun _ => true) true Try.f5.params.toList args.toList ds p := hA0
  rw [Try.params5] at hA hval
  obtain ⟨v0, vs0, d0, ds0, p0, q0, hargs, rfl, rfl, h0, r0x⟩ := trodAll_cons hA
  obtain ⟨rfl, rfl, rfl⟩ := trodAll_nil r0x
  obtain rfl : args = #[v0] := by cases args; simp_all
  obtain ⟨rfl, rfl⟩ := trodVars_none hV
  obtain ⟨D0, a0, cs0, F0, rfl, w0⟩ := open_Expr (hval 0 24 v0 rfl rfl) h0
  clear hA0 hval0
  refine (walk W D0 a0 cs0 F0 w0).mono fun e W' ⟨he, hb⟩ => ?_
  exact ⟨_, he, law_post (gs := []) hW' hb (by kernel_rfl) (by kernel_rfl) (by kernel_rfl) Try.underlying4 rfl rfl⟩

theorem over : Rows.fnExactHasRemoteRow.holds Try.pinned (OpenSpec.ofChange Rows.fnExactHasRemoteSpec) :=
  OpenClaim.holds_of_wide 5 Try.f5 rfl rfl rfl rfl rfl rfl rfl ⟨rfl, rfl, rfl, rfl, rfl⟩ rfl rfl rfl rfl rfl (by kernel_rfl) Try.func5 (by kernel_rfl)
    (of_decide_eq_true (by kernel_rfl)) (by unfold Func.isWrapper; first | (rw [if_pos (by decide +kernel)]; kernel_rfl) | (rw [if_neg (by decide +kernel)]; exact ⟨rfl, rfl⟩))
    (fun os started H enc _ => lifted os started H enc)

/-- The statement. -/
theorem proved : Rows.FnExactHasRemoteSaid := over
#print axioms proved
end Go.Proofs.Ytadfbidgbeoggaa.fnExactHasRemote
