/- Valid symbols: an earlier attribute of the same name, sought by a closure. Conditions: none beyond that the symbol can be read. -/
import Derived.Test.YtilndebjnibgjaaDoorSymVal
namespace Go.Proofs.YtilndebjnibgjaaDoor
set_option maxRecDepth 100000
open Go.RowKit Go.WideShapes
set_option linter.unusedVariables false

theorem clo_name (D : Nat) (y : Atr) (cs : List Value) (F : List Nat) (w : World) (h : AtrR D w y cs F) (B : Nat) (an : ByteArray) (hB : w.cell? ⟨B, 0, none⟩ = some (.string an)) :
    Calls Tryd.prog 33 #[.agg cs.toArray, .pointer (some ⟨B, 0, none⟩)] w fun en w' => en = .returned (.bool (y.name.toList == an.toList)) ∧ Below w.heap.size w w' := by
  obtain ⟨c0, c1, c2, c3, rfl⟩ := list4 ((AtrR.good D).len h)
  obtain ⟨_, hk, h0, h1, h2, h3, rfl⟩ := h
  obtain rfl := Option.some.inj h0
  obtain rfl := Option.some.inj h1
  obtain rfl := Option.some.inj h2
  obtain rfl := Option.some.inj h3
  have hlt := cell_lt hB
  simp only at hlt
  clear hk h0 h1 h2 h3
  show Calls _ _ #[.agg #[.string y.name, .int .i64 y.type, .int .i64 y.mode, .bool y.circ], .pointer (some ⟨B, 0, none⟩)] w _
  go_enter Tryd.func33, Tryd.ntmps33
  go_wp2_with fail
  go_ret
  exact ⟨rfl, (Below.refl _ _).alloc (Nat.le_refl _) _⟩
def IdxOk (b : Bool) (e : Ending) : Prop := ∃ r : Int, e = .returned (.int .i64 r) ∧ decide (0 ≤ r) = b
set_option maxRecDepth 100000 in
theorem idx_name (D : Nat) (l : List Atr) (A : Option Addr) (cap k : Nat) (F : List Nat) (w : World) (hs : SlR 4 (AtrR D) w l (.slice A l.length cap) F) (hk : k ≤ l.length) (B : Nat) (an : ByteArray) (hB : w.cell? ⟨B, 0, none⟩ = some (.string an)) :
    Calls Tryd.prog 47 #[.slice A k cap, .func (.func 33) #[] #[.pointer (some ⟨B, 0, none⟩)]] w fun en w' =>
      IdxOk ((l.take k).any fun a => a.name.toList == an.toList) en ∧ Below w.heap.size w w' := by
  obtain ⟨_, hlc, hm⟩ := hs.bnd
  unfold maxLen at hm
  have hkm : k ≤ 9223372036854775807 := by omega
  have HF := hide (hs.lt (AtrR.good D))
  have Hs := hide hs
  have HB := hide hB
  have HBl := hide (cell_lt hB)
  clear hs hB hlc hm
  go_enter Tryd.func47, Tryd.ntmps47
  go_wp2_with fail
  go_loopw [8] (fun i wr => ∃ j : Nat, j ≤ k ∧ i = .int .i64 j ∧ Hid ((l.take j).any (fun a => a.name.toList == an.toList) = false) ∧ Hid (Below w.heap.size w wr)) (fun i _ => k - (intOf i).toNat)
  case atStart => exact ⟨0, by omega, rfl, hide rfl, hide (Below.refl _ _)⟩
  case round =>
    obtain ⟨j, hj, rfl, Hno, Hb⟩ := hrel
    by_cases hlt : j < k
    · have hx : l[j]? = some (l[j]'(by omega)) := List.getElem?_eq_getElem _
      generalize l[j]'(by omega) = y at hx
      have Hx := hide hx
      obtain ⟨b, off, cs, Fk, hA, _, hbF, hFk, hcl, hcat, hR⟩ := SlR.get (AtrR.good D) (Hs.out.below (AtrR.good D) Hb.out HF.out) hx
      subst hA
      obtain ⟨c0, c1, c2, c3, rfl⟩ := list4 hcl
      obtain ⟨g0, g1, g2, g3⟩ := hcat.four
      have HR := hide hR
      have hblt := Nat.lt_of_lt_of_le (HF.out b hbF) Hb.out.size
      have HBw := hide ((Hb.out.cell HBl.out).trans HB.out)
      have hj0 : (0 : Int) ≤ (j : Int) := by omega
      have hj1 : (j : Int) < (k : Int) := by omega
      clear hx hR hcat hFk hbF hcl
      go_wp2_with fail
      refine Calls.mono (clo_name D y _ Fk _ HR.out B an HBw.out) ?_
      rintro en w2 ⟨rfl, hb2⟩
      have HB2 : Hid (Below w.heap.size w w2) := hide (Hb.out.trans (hb2.mono Hb.out.size))
      clear hb2
      cases hq : (y.name.toList == an.toList)
      · have Hno2 : Hid ((l.take (j + 1)).any (fun a => a.name.toList == an.toList) = false) := hide (by rw [take_snoc Hx.out, List.any_append, Hno.out]; simp [hq])
        clear hq
        go_wp2_with fail
        go_roundw
        case rel => exact ⟨j + 1, by omega, by go_num, Hno2, HB2⟩
        case measure => simp [intOf]; omega
      · have Hyes : Hid ((l.take k).any (fun a => a.name.toList == an.toList) = true) := hide (by
          rw [List.any_eq_true]
          exact ⟨y, List.mem_of_getElem? (i := j) (by rw [List.getElem?_take, if_pos hlt]; exact Hx.out), hq⟩)
        clear hq
        go_wp2_with fail
        go_ret
        exact ⟨⟨_, rfl, by rw [Hyes.out]; exact decide_eq_true hj0⟩, HB2.out⟩
    · have hjk : j = k := by omega
      subst hjk
      go_wp2_with fail
      go_ret
      exact ⟨⟨-1, rfl, by rw [Hno.out]; rfl⟩, Hb.out⟩
theorem con_name (D : Nat) (l : List Atr) (A : Option Addr) (cap k : Nat) (F : List Nat) (w : World) (hs : SlR 4 (AtrR D) w l (.slice A l.length cap) F) (hk : k ≤ l.length) (B : Nat) (an : ByteArray) (hB : w.cell? ⟨B, 0, none⟩ = some (.string an)) :
    Calls Tryd.prog 32 #[.slice A k cap, .func (.func 33) #[] #[.pointer (some ⟨B, 0, none⟩)]] w fun en w' =>
      en = .returned (.bool ((l.take k).any fun a => a.name.toList == an.toList)) ∧ Below w.heap.size w w' := by
  have HI := hide (idx_name D l A cap k F w hs hk B an hB)
  generalize (l.take k).any (fun a => a.name.toList == an.toList) = q at HI
  clear hs hB
  go_enter Tryd.func32, Tryd.ntmps32
  go_wp2_with fail
  refine Calls.mono HI.out ?_
  rintro en w2 ⟨⟨r, rfl, hr⟩, hb⟩
  have Hr := hide hr
  clear hr
  go_wp2_with fail
  go_ret
  exact ⟨ret_bool Hr.out, hb⟩
end Go.Proofs.YtilndebjnibgjaaDoor
