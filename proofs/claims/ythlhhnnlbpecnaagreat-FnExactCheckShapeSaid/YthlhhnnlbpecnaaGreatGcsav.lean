/- Several texts of one proof in one file: Valid symbols: an earlier attribute of the same name, sought by a closure. slices.ContainsFunc at the program's structs, with any closure that only reads. Conditions: each theorem names its own. -/
import Derived.Test.YthlhhnnlbpecnaaGreatGcsar
import Derived.Test.YthlhhnnlbpecnaaGreatGcsag
import Derived.Test.YthlhhnnlbpecnaaGreatGcsah

/- Valid symbols: an earlier attribute of the same name, sought by a closure. Conditions: none beyond that the symbol can be read. -/
namespace Go.Proofs.YthlhhnnlbpecnaaGreat
set_option linter.unusedSimpArgs false
set_option linter.unusedVariables false
set_option maxRecDepth 100000
open Go.RowKit Go.WideShapes
set_option linter.unusedVariables false

theorem clo_name (D : Nat) (y : Atr) (cs : List Value) (F : List Nat) (w : World) (h : AtrR D w y cs F) (B : Nat) (an : ByteArray) (hB : w.cell? ⟨B, 0, none⟩ = some (.string an)) :
    Calls Tryz.prog 80 #[.agg cs.toArray, .pointer (some ⟨B, 0, none⟩)] w fun en w' => en = .returned (.bool (y.name.toList == an.toList)) ∧ Below w.heap.size w w' := by
  obtain ⟨c0, c1, c2, c3, rfl⟩ := list4 ((AtrR.good D).len h)
  obtain ⟨_, hk, h0, h1, h2, h3, rfl⟩ := h
  obtain rfl := Option.some.inj h0
  obtain rfl := Option.some.inj h1
  obtain rfl := Option.some.inj h2
  obtain rfl := Option.some.inj h3
  have hlt := cell_lt hB
  simp only at hlt
  clear hk h0 h1 h2 h3
  show Calls _ _ #[.agg #[.string y.name, .int .i64 y.type, .int .i64 y.mode, .bool y.circ], .pointer (some ⟨B, 0, none⟩)] w _
  go_enter Tryz.func80, Tryz.ntmps80
  go_wp2_with fail
  go_ret
  exact ⟨rfl, (Below.refl _ _).alloc (Nat.le_refl _) _⟩
def IdxOk (b : Bool) (e : Ending) : Prop := ∃ r : Int, e = .returned (.int .i64 r) ∧ decide (0 ≤ r) = b
set_option maxRecDepth 100000 in
theorem idx_name (D : Nat) (l : List Atr) (A : Option Addr) (cap k : Nat) (F : List Nat) (w : World) (hs : SlR 4 (AtrR D) w l (.slice A l.length cap) F) (hk : k ≤ l.length) (B : Nat) (an : ByteArray) (hB : w.cell? ⟨B, 0, none⟩ = some (.string an)) :
    Calls Tryz.prog 43 #[.slice A k cap, .func (.func 80) #[] #[.pointer (some ⟨B, 0, none⟩)]] w fun en w' =>
      IdxOk ((l.take k).any fun a => a.name.toList == an.toList) en ∧ Below w.heap.size w w' := by
  obtain ⟨_, hlc, hm⟩ := hs.bnd
  unfold maxLen at hm
  have hkm : k ≤ 9223372036854775807 := by omega
  have HF := hide (hs.lt (AtrR.good D))
  have Hs := hide hs
  have HB := hide hB
  have HBl := hide (cell_lt hB)
  clear hs hB hlc hm
  go_enter Tryz.func43, Tryz.ntmps43
  go_wp2_with fail
  go_loopw [8] (fun i wr => ∃ j : Nat, j ≤ k ∧ i = .int .i64 j ∧ Hid ((l.take j).any (fun a => a.name.toList == an.toList) = false) ∧ Hid (Below w.heap.size w wr)) (fun i _ => k - (intOf i).toNat)
  case atStart => exact ⟨0, by omega, rfl, hide rfl, hide (Below.refl _ _)⟩
  case round =>
    obtain ⟨j, hj, rfl, Hno, Hb⟩ := hrel
    by_cases hlt : j < k
    · have hx : l[j]? = some (l[j]'(by omega)) := List.getElem?_eq_getElem _
      generalize l[j]'(by omega) = y at hx
      have Hx := hide hx
      obtain ⟨b, off, cs, Fk, hA, _, hbF, hFk, hcl, hcat, hR⟩ := SlR.get (AtrR.good D) (Hs.out.below (AtrR.good D) Hb.out HF.out) hx
      subst hA
      obtain ⟨c0, c1, c2, c3, rfl⟩ := list4 hcl
      obtain ⟨g0, g1, g2, g3⟩ := hcat.four
      have HR := hide hR
      have hblt := Nat.lt_of_lt_of_le (HF.out b hbF) Hb.out.size
      have HBw := hide ((Hb.out.cell HBl.out).trans HB.out)
      have hj0 : (0 : Int) ≤ (j : Int) := by omega
      have hj1 : (j : Int) < (k : Int) := by omega
      clear hx hR hcat hFk hbF hcl
      go_wp2_with fail
      refine Calls.mono (clo_name D y _ Fk _ HR.out B an HBw.out) ?_
      rintro en w2 ⟨rfl, hb2⟩
      have HB2 : Hid (Below w.heap.size w w2) := hide (Hb.out.trans (hb2.mono Hb.out.size))
      clear hb2
      cases hq : (y.name.toList == an.toList)
      · have Hno2 : Hid ((l.take (j + 1)).any (fun a => a.name.toList == an.toList) = false) := hide (by rw [take_snoc Hx.out, List.any_append, Hno.out]; simp [hq])
        clear hq
        go_wp2_with fail
        go_roundw
        case rel => exact ⟨j + 1, by omega, by go_num, Hno2, HB2⟩
        case measure => simp [intOf]; omega
      · have Hyes : Hid ((l.take k).any (fun a => a.name.toList == an.toList) = true) := hide (by
          rw [List.any_eq_true]
          exact ⟨y, List.mem_of_getElem? (i := j) (by rw [List.getElem?_take, if_pos hlt]; exact Hx.out), hq⟩)
        clear hq
        go_wp2_with fail
        go_ret
        exact ⟨⟨_, rfl, by rw [Hyes.out]; exact decide_eq_true hj0⟩, HB2.out⟩
    · have hjk : j = k := by omega
      subst hjk
      go_wp2_with fail
      go_ret
      exact ⟨⟨-1, rfl, by rw [Hno.out]; rfl⟩, Hb.out⟩
theorem con_name (D : Nat) (l : List Atr) (A : Option Addr) (cap k : Nat) (F : List Nat) (w : World) (hs : SlR 4 (AtrR D) w l (.slice A l.length cap) F) (hk : k ≤ l.length) (B : Nat) (an : ByteArray) (hB : w.cell? ⟨B, 0, none⟩ = some (.string an)) :
    Calls Tryz.prog 18 #[.slice A k cap, .func (.func 80) #[] #[.pointer (some ⟨B, 0, none⟩)]] w fun en w' =>
      en = .returned (.bool ((l.take k).any fun a => a.name.toList == an.toList)) ∧ Below w.heap.size w w' := by
  have HI := hide (idx_name D l A cap k F w hs hk B an hB)
  generalize (l.take k).any (fun a => a.name.toList == an.toList) = q at HI
  clear hs hB
  go_enter Tryz.func18, Tryz.ntmps18
  go_wp2_with fail
  refine Calls.mono HI.out ?_
  rintro en w2 ⟨⟨r, rfl, hr⟩, hb⟩
  have Hr := hide hr
  clear hr
  go_wp2_with fail
  go_ret
  exact ⟨ret_bool Hr.out, hb⟩
end Go.Proofs.YthlhhnnlbpecnaaGreat

/- slices.ContainsFunc at the program's structs, with any closure that only reads. Conditions: none beyond that the slice can be read. -/
namespace Go.Proofs.YthlhhnnlbpecnaaGreat
set_option linter.unusedSimpArgs false
set_option linter.unusedVariables false
set_option maxRecDepth 100000
open Go.RowKit Go.WideShapes
set_option linter.unusedVariables false
set_option linter.unusedSectionVars false
/-- f is a function of the program with a body. -/
def Ent (f : Nat) : Prop := Hid (∀ (args : Array Value) (W : World), Sem.run Tryz.prog (callFunc f args) W = .ok (.enter f args) W)
theorem Ent.out {f : Nat} (h : Ent f) (args : Array Value) (W : World) : Sem.run Tryz.prog (callFunc f args) W = .ok (.enter f args) W := Hid.out h args W

set_option maxRecDepth 100000 in
theorem idx_Sym1 {α : Type} {R : CR α} (hG : Good 2 R) (f : Nat) (hf : Ent f) (c1 : Value) (p : α → Bool) (l : List α) (A : Option Addr) (cap k : Nat) (F : List Nat) (w : World) (hs : SlR 2 R w l (.slice A l.length cap) F) (hk : k ≤ l.length) (hc : ∀ (W : World) (y : α) (cs : List Value) (Fk : List Nat), y ∈ l → Below w.heap.size w W → R W y cs Fk → Calls Tryz.prog f #[.agg cs.toArray, c1] W fun en w' => en = .returned (.bool (p y)) ∧ Below W.heap.size W w') :
    Calls Tryz.prog 82 #[.slice A k cap, .func (.func f) #[] #[c1]] w fun en w' => IdxOk ((l.take k).any p) en ∧ Below w.heap.size w w' := by
  obtain ⟨_, hlc, hm⟩ := hs.bnd
  unfold maxLen at hm
  have hkm : k ≤ 9223372036854775807 := by omega
  have HF := hide (hs.lt hG)
  have Hs := hide hs
  have HC := hide hc
  have Hi : Hid ((Tryz.prog.info? 42).map (·.size) = some 2) := hide (by kernel_rfl)
  clear hs hc hlc hm
  go_enter Tryz.func82, Tryz.ntmps82
  go_wp2_with fail
  go_loopw [8] (fun i wr => ∃ j : Nat, j ≤ k ∧ i = .int .i64 j ∧ Hid ((l.take j).any p = false) ∧ Hid (Below w.heap.size w wr)) (fun i _ => k - (intOf i).toNat)
  case atStart => exact ⟨0, by omega, rfl, hide rfl, hide (Below.refl _ _)⟩
  case round =>
    obtain ⟨j, hj, rfl, Hno, Hb⟩ := hrel
    by_cases hlt : j < k
    · have hx : l[j]? = some (l[j]'(by omega)) := List.getElem?_eq_getElem _
      generalize l[j]'(by omega) = y at hx
      have Hx := hide hx
      obtain ⟨b, off, cs, Fk, hA, _, hbF, hFk, hcl, hcat, hR⟩ := SlR.get hG (Hs.out.below hG Hb.out HF.out) hx
      subst hA
      have HR := hide hR
      have hblt := Nat.lt_of_lt_of_le (HF.out b hbF) Hb.out.size
      have Hn := hide hcl
      have Hc := hide hcat
      have hj0 : (0 : Int) ≤ (j : Int) := by omega
      have hj1 : (j : Int) < (k : Int) := by omega
      clear hx hR hcat hFk hbF hcl
      go_wp2_with (first
        | refine wpList_load_at 42 (.tmp 14) rfl Tryz.underlying42 rfl Hi.out rfl rfl Hn.out Hc.out ?_)
      simp only [hf.out, Oper.upon_enter]
      refine Calls.mono (HC.out _ y _ Fk (List.mem_of_getElem? Hx.out) Hb.out HR.out) ?_
      rintro en w2 ⟨rfl, hb2⟩
      have HB2 : Hid (Below w.heap.size w w2) := hide (Hb.out.trans (hb2.mono Hb.out.size))
      clear hb2
      cases hq : p y
      · have Hno2 : Hid ((l.take (j + 1)).any p = false) := hide (by rw [take_snoc Hx.out, List.any_append, Hno.out]; simp [hq])
        clear hq
        go_wp2_with fail
        go_roundw
        case rel => exact ⟨j + 1, by omega, by go_num, Hno2, HB2⟩
        case measure => simp [intOf]; omega
      · have Hyes : Hid ((l.take k).any p = true) := hide (by
          rw [List.any_eq_true]
          exact ⟨y, List.mem_of_getElem? (i := j) (by rw [List.getElem?_take, if_pos hlt]; exact Hx.out), hq⟩)
        clear hq
        go_wp2_with fail
        go_ret
        exact ⟨⟨_, rfl, by rw [Hyes.out]; exact decide_eq_true hj0⟩, HB2.out⟩
    · have hjk : j = k := by omega
      subst hjk
      go_wp2_with fail
      go_ret
      exact ⟨⟨-1, rfl, by rw [Hno.out]; rfl⟩, Hb.out⟩
theorem con_Sym1 {α : Type} {R : CR α} (hG : Good 2 R) (f : Nat) (hf : Ent f) (c1 : Value) (p : α → Bool) (l : List α) (A : Option Addr) (cap k : Nat) (F : List Nat) (w : World) (hs : SlR 2 R w l (.slice A l.length cap) F) (hk : k ≤ l.length) (hc : ∀ (W : World) (y : α) (cs : List Value) (Fk : List Nat), y ∈ l → Below w.heap.size w W → R W y cs Fk → Calls Tryz.prog f #[.agg cs.toArray, c1] W fun en w' => en = .returned (.bool (p y)) ∧ Below W.heap.size W w') :
    Calls Tryz.prog 38 #[.slice A k cap, .func (.func f) #[] #[c1]] w fun en w' => en = .returned (.bool ((l.take k).any p)) ∧ Below w.heap.size w w' := by
  have HI := hide (idx_Sym1 hG f hf c1 p l A cap k F w hs hk hc)
  generalize (l.take k).any p = q at HI
  clear hs hc
  go_enter Tryz.func38, Tryz.ntmps38
  go_wp2_with fail
  refine Calls.mono HI.out ?_
  rintro en w2 ⟨⟨r, rfl, hr⟩, hb⟩
  have Hr := hide hr
  clear hr
  go_wp2_with fail
  go_ret
  exact ⟨ret_bool Hr.out, hb⟩
theorem conA_Sym1 {α : Type} {R : CR α} (hG : Good 2 R) (f : Nat) (hf : Ent f) (c1 : Value) (p : α → Bool) (l : List α) (A : Option Addr) (cap : Nat) (F : List Nat) (w : World) (hs : SlR 2 R w l (.slice A l.length cap) F) (hc : ∀ (W : World) (y : α) (cs : List Value) (Fk : List Nat), y ∈ l → Below w.heap.size w W → R W y cs Fk → Calls Tryz.prog f #[.agg cs.toArray, c1] W fun en w' => en = .returned (.bool (p y)) ∧ Below W.heap.size W w') :
    Calls Tryz.prog 38 #[.slice A l.length cap, .func (.func f) #[] #[c1]] w fun en w' => en = .returned (.bool (l.any p)) ∧ Below w.heap.size w w' := by
  have h := con_Sym1 hG f hf c1 p l A cap l.length F w hs (Nat.le_refl _) hc
  rw [List.take_length] at h
  exact h
set_option maxRecDepth 100000 in
theorem idx_Rul1 {α : Type} {R : CR α} (hG : Good 6 R) (f : Nat) (hf : Ent f) (c1 : Value) (p : α → Bool) (l : List α) (A : Option Addr) (cap k : Nat) (F : List Nat) (w : World) (hs : SlR 6 R w l (.slice A l.length cap) F) (hk : k ≤ l.length) (hc : ∀ (W : World) (y : α) (cs : List Value) (Fk : List Nat), y ∈ l → Below w.heap.size w W → R W y cs Fk → Calls Tryz.prog f #[.agg cs.toArray, c1] W fun en w' => en = .returned (.bool (p y)) ∧ Below W.heap.size W w') :
    Calls Tryz.prog 84 #[.slice A k cap, .func (.func f) #[] #[c1]] w fun en w' => IdxOk ((l.take k).any p) en ∧ Below w.heap.size w w' := by
  obtain ⟨_, hlc, hm⟩ := hs.bnd
  unfold maxLen at hm
  have hkm : k ≤ 9223372036854775807 := by omega
  have HF := hide (hs.lt hG)
  have Hs := hide hs
  have HC := hide hc
  have Hi : Hid ((Tryz.prog.info? 50).map (·.size) = some 6) := hide (by kernel_rfl)
  clear hs hc hlc hm
  go_enter Tryz.func84, Tryz.ntmps84
  go_wp2_with fail
  go_loopw [8] (fun i wr => ∃ j : Nat, j ≤ k ∧ i = .int .i64 j ∧ Hid ((l.take j).any p = false) ∧ Hid (Below w.heap.size w wr)) (fun i _ => k - (intOf i).toNat)
  case atStart => exact ⟨0, by omega, rfl, hide rfl, hide (Below.refl _ _)⟩
  case round =>
    obtain ⟨j, hj, rfl, Hno, Hb⟩ := hrel
    by_cases hlt : j < k
    · have hx : l[j]? = some (l[j]'(by omega)) := List.getElem?_eq_getElem _
      generalize l[j]'(by omega) = y at hx
      have Hx := hide hx
      obtain ⟨b, off, cs, Fk, hA, _, hbF, hFk, hcl, hcat, hR⟩ := SlR.get hG (Hs.out.below hG Hb.out HF.out) hx
      subst hA
      have HR := hide hR
      have hblt := Nat.lt_of_lt_of_le (HF.out b hbF) Hb.out.size
      have Hn := hide hcl
      have Hc := hide hcat
      have hj0 : (0 : Int) ≤ (j : Int) := by omega
      have hj1 : (j : Int) < (k : Int) := by omega
      clear hx hR hcat hFk hbF hcl
      go_wp2_with (first
        | refine wpList_load_at 50 (.tmp 14) rfl Tryz.underlying50 rfl Hi.out rfl rfl Hn.out Hc.out ?_)
      simp only [hf.out, Oper.upon_enter]
      refine Calls.mono (HC.out _ y _ Fk (List.mem_of_getElem? Hx.out) Hb.out HR.out) ?_
      rintro en w2 ⟨rfl, hb2⟩
      have HB2 : Hid (Below w.heap.size w w2) := hide (Hb.out.trans (hb2.mono Hb.out.size))
      clear hb2
      cases hq : p y
      · have Hno2 : Hid ((l.take (j + 1)).any p = false) := hide (by rw [take_snoc Hx.out, List.any_append, Hno.out]; simp [hq])
        clear hq
        go_wp2_with fail
        go_roundw
        case rel => exact ⟨j + 1, by omega, by go_num, Hno2, HB2⟩
        case measure => simp [intOf]; omega
      · have Hyes : Hid ((l.take k).any p = true) := hide (by
          rw [List.any_eq_true]
          exact ⟨y, List.mem_of_getElem? (i := j) (by rw [List.getElem?_take, if_pos hlt]; exact Hx.out), hq⟩)
        clear hq
        go_wp2_with fail
        go_ret
        exact ⟨⟨_, rfl, by rw [Hyes.out]; exact decide_eq_true hj0⟩, HB2.out⟩
    · have hjk : j = k := by omega
      subst hjk
      go_wp2_with fail
      go_ret
      exact ⟨⟨-1, rfl, by rw [Hno.out]; rfl⟩, Hb.out⟩
theorem con_Rul1 {α : Type} {R : CR α} (hG : Good 6 R) (f : Nat) (hf : Ent f) (c1 : Value) (p : α → Bool) (l : List α) (A : Option Addr) (cap k : Nat) (F : List Nat) (w : World) (hs : SlR 6 R w l (.slice A l.length cap) F) (hk : k ≤ l.length) (hc : ∀ (W : World) (y : α) (cs : List Value) (Fk : List Nat), y ∈ l → Below w.heap.size w W → R W y cs Fk → Calls Tryz.prog f #[.agg cs.toArray, c1] W fun en w' => en = .returned (.bool (p y)) ∧ Below W.heap.size W w') :
    Calls Tryz.prog 41 #[.slice A k cap, .func (.func f) #[] #[c1]] w fun en w' => en = .returned (.bool ((l.take k).any p)) ∧ Below w.heap.size w w' := by
  have HI := hide (idx_Rul1 hG f hf c1 p l A cap k F w hs hk hc)
  generalize (l.take k).any p = q at HI
  clear hs hc
  go_enter Tryz.func41, Tryz.ntmps41
  go_wp2_with fail
  refine Calls.mono HI.out ?_
  rintro en w2 ⟨⟨r, rfl, hr⟩, hb⟩
  have Hr := hide hr
  clear hr
  go_wp2_with fail
  go_ret
  exact ⟨ret_bool Hr.out, hb⟩
theorem conA_Rul1 {α : Type} {R : CR α} (hG : Good 6 R) (f : Nat) (hf : Ent f) (c1 : Value) (p : α → Bool) (l : List α) (A : Option Addr) (cap : Nat) (F : List Nat) (w : World) (hs : SlR 6 R w l (.slice A l.length cap) F) (hc : ∀ (W : World) (y : α) (cs : List Value) (Fk : List Nat), y ∈ l → Below w.heap.size w W → R W y cs Fk → Calls Tryz.prog f #[.agg cs.toArray, c1] W fun en w' => en = .returned (.bool (p y)) ∧ Below W.heap.size W w') :
    Calls Tryz.prog 41 #[.slice A l.length cap, .func (.func f) #[] #[c1]] w fun en w' => en = .returned (.bool (l.any p)) ∧ Below w.heap.size w w' := by
  have h := con_Rul1 hG f hf c1 p l A cap l.length F w hs (Nat.le_refl _) hc
  rw [List.take_length] at h
  exact h
set_option maxRecDepth 100000 in
theorem idx_Occ1 {α : Type} {R : CR α} (hG : Good 2 R) (f : Nat) (hf : Ent f) (c1 : Value) (p : α → Bool) (l : List α) (A : Option Addr) (cap k : Nat) (F : List Nat) (w : World) (hs : SlR 2 R w l (.slice A l.length cap) F) (hk : k ≤ l.length) (hc : ∀ (W : World) (y : α) (cs : List Value) (Fk : List Nat), y ∈ l → Below w.heap.size w W → R W y cs Fk → Calls Tryz.prog f #[.agg cs.toArray, c1] W fun en w' => en = .returned (.bool (p y)) ∧ Below W.heap.size W w') :
    Calls Tryz.prog 85 #[.slice A k cap, .func (.func f) #[] #[c1]] w fun en w' => IdxOk ((l.take k).any p) en ∧ Below w.heap.size w w' := by
  obtain ⟨_, hlc, hm⟩ := hs.bnd
  unfold maxLen at hm
  have hkm : k ≤ 9223372036854775807 := by omega
  have HF := hide (hs.lt hG)
  have Hs := hide hs
  have HC := hide hc
  have Hi : Hid ((Tryz.prog.info? 81).map (·.size) = some 2) := hide (by kernel_rfl)
  clear hs hc hlc hm
  go_enter Tryz.func85, Tryz.ntmps85
  go_wp2_with fail
  go_loopw [8] (fun i wr => ∃ j : Nat, j ≤ k ∧ i = .int .i64 j ∧ Hid ((l.take j).any p = false) ∧ Hid (Below w.heap.size w wr)) (fun i _ => k - (intOf i).toNat)
  case atStart => exact ⟨0, by omega, rfl, hide rfl, hide (Below.refl _ _)⟩
  case round =>
    obtain ⟨j, hj, rfl, Hno, Hb⟩ := hrel
    by_cases hlt : j < k
    · have hx : l[j]? = some (l[j]'(by omega)) := List.getElem?_eq_getElem _
      generalize l[j]'(by omega) = y at hx
      have Hx := hide hx
      obtain ⟨b, off, cs, Fk, hA, _, hbF, hFk, hcl, hcat, hR⟩ := SlR.get hG (Hs.out.below hG Hb.out HF.out) hx
      subst hA
      have HR := hide hR
      have hblt := Nat.lt_of_lt_of_le (HF.out b hbF) Hb.out.size
      have Hn := hide hcl
      have Hc := hide hcat
      have hj0 : (0 : Int) ≤ (j : Int) := by omega
      have hj1 : (j : Int) < (k : Int) := by omega
      clear hx hR hcat hFk hbF hcl
      go_wp2_with (first
        | refine wpList_load_at 81 (.tmp 14) rfl Tryz.underlying81 rfl Hi.out rfl rfl Hn.out Hc.out ?_)
      simp only [hf.out, Oper.upon_enter]
      refine Calls.mono (HC.out _ y _ Fk (List.mem_of_getElem? Hx.out) Hb.out HR.out) ?_
      rintro en w2 ⟨rfl, hb2⟩
      have HB2 : Hid (Below w.heap.size w w2) := hide (Hb.out.trans (hb2.mono Hb.out.size))
      clear hb2
      cases hq : p y
      · have Hno2 : Hid ((l.take (j + 1)).any p = false) := hide (by rw [take_snoc Hx.out, List.any_append, Hno.out]; simp [hq])
        clear hq
        go_wp2_with fail
        go_roundw
        case rel => exact ⟨j + 1, by omega, by go_num, Hno2, HB2⟩
        case measure => simp [intOf]; omega
      · have Hyes : Hid ((l.take k).any p = true) := hide (by
          rw [List.any_eq_true]
          exact ⟨y, List.mem_of_getElem? (i := j) (by rw [List.getElem?_take, if_pos hlt]; exact Hx.out), hq⟩)
        clear hq
        go_wp2_with fail
        go_ret
        exact ⟨⟨_, rfl, by rw [Hyes.out]; exact decide_eq_true hj0⟩, HB2.out⟩
    · have hjk : j = k := by omega
      subst hjk
      go_wp2_with fail
      go_ret
      exact ⟨⟨-1, rfl, by rw [Hno.out]; rfl⟩, Hb.out⟩
theorem con_Occ1 {α : Type} {R : CR α} (hG : Good 2 R) (f : Nat) (hf : Ent f) (c1 : Value) (p : α → Bool) (l : List α) (A : Option Addr) (cap k : Nat) (F : List Nat) (w : World) (hs : SlR 2 R w l (.slice A l.length cap) F) (hk : k ≤ l.length) (hc : ∀ (W : World) (y : α) (cs : List Value) (Fk : List Nat), y ∈ l → Below w.heap.size w W → R W y cs Fk → Calls Tryz.prog f #[.agg cs.toArray, c1] W fun en w' => en = .returned (.bool (p y)) ∧ Below W.heap.size W w') :
    Calls Tryz.prog 46 #[.slice A k cap, .func (.func f) #[] #[c1]] w fun en w' => en = .returned (.bool ((l.take k).any p)) ∧ Below w.heap.size w w' := by
  have HI := hide (idx_Occ1 hG f hf c1 p l A cap k F w hs hk hc)
  generalize (l.take k).any p = q at HI
  clear hs hc
  go_enter Tryz.func46, Tryz.ntmps46
  go_wp2_with fail
  refine Calls.mono HI.out ?_
  rintro en w2 ⟨⟨r, rfl, hr⟩, hb⟩
  have Hr := hide hr
  clear hr
  go_wp2_with fail
  go_ret
  exact ⟨ret_bool Hr.out, hb⟩
theorem conA_Occ1 {α : Type} {R : CR α} (hG : Good 2 R) (f : Nat) (hf : Ent f) (c1 : Value) (p : α → Bool) (l : List α) (A : Option Addr) (cap : Nat) (F : List Nat) (w : World) (hs : SlR 2 R w l (.slice A l.length cap) F) (hc : ∀ (W : World) (y : α) (cs : List Value) (Fk : List Nat), y ∈ l → Below w.heap.size w W → R W y cs Fk → Calls Tryz.prog f #[.agg cs.toArray, c1] W fun en w' => en = .returned (.bool (p y)) ∧ Below W.heap.size W w') :
    Calls Tryz.prog 46 #[.slice A l.length cap, .func (.func f) #[] #[c1]] w fun en w' => en = .returned (.bool (l.any p)) ∧ Below w.heap.size w w' := by
  have h := con_Occ1 hG f hf c1 p l A cap l.length F w hs (Nat.le_refl _) hc
  rw [List.take_length] at h
  exact h
set_option maxRecDepth 100000 in
theorem idx_Occ2 {α : Type} {R : CR α} (hG : Good 2 R) (f : Nat) (hf : Ent f) (c1 : Value) (c2 : Value) (p : α → Bool) (l : List α) (A : Option Addr) (cap k : Nat) (F : List Nat) (w : World) (hs : SlR 2 R w l (.slice A l.length cap) F) (hk : k ≤ l.length) (hc : ∀ (W : World) (y : α) (cs : List Value) (Fk : List Nat), y ∈ l → Below w.heap.size w W → R W y cs Fk → Calls Tryz.prog f #[.agg cs.toArray, c1, c2] W fun en w' => en = .returned (.bool (p y)) ∧ Below W.heap.size W w') :
    Calls Tryz.prog 85 #[.slice A k cap, .func (.func f) #[] #[c1, c2]] w fun en w' => IdxOk ((l.take k).any p) en ∧ Below w.heap.size w w' := by
  obtain ⟨_, hlc, hm⟩ := hs.bnd
  unfold maxLen at hm
  have hkm : k ≤ 9223372036854775807 := by omega
  have HF := hide (hs.lt hG)
  have Hs := hide hs
  have HC := hide hc
  have Hi : Hid ((Tryz.prog.info? 81).map (·.size) = some 2) := hide (by kernel_rfl)
  clear hs hc hlc hm
  go_enter Tryz.func85, Tryz.ntmps85
  go_wp2_with fail
  go_loopw [8] (fun i wr => ∃ j : Nat, j ≤ k ∧ i = .int .i64 j ∧ Hid ((l.take j).any p = false) ∧ Hid (Below w.heap.size w wr)) (fun i _ => k - (intOf i).toNat)
  case atStart => exact ⟨0, by omega, rfl, hide rfl, hide (Below.refl _ _)⟩
  case round =>
    obtain ⟨j, hj, rfl, Hno, Hb⟩ := hrel
    by_cases hlt : j < k
    · have hx : l[j]? = some (l[j]'(by omega)) := List.getElem?_eq_getElem _
      generalize l[j]'(by omega) = y at hx
      have Hx := hide hx
      obtain ⟨b, off, cs, Fk, hA, _, hbF, hFk, hcl, hcat, hR⟩ := SlR.get hG (Hs.out.below hG Hb.out HF.out) hx
      subst hA
      have HR := hide hR
      have hblt := Nat.lt_of_lt_of_le (HF.out b hbF) Hb.out.size
      have Hn := hide hcl
      have Hc := hide hcat
      have hj0 : (0 : Int) ≤ (j : Int) := by omega
      have hj1 : (j : Int) < (k : Int) := by omega
      clear hx hR hcat hFk hbF hcl
      go_wp2_with (first
        | refine wpList_load_at 81 (.tmp 14) rfl Tryz.underlying81 rfl Hi.out rfl rfl Hn.out Hc.out ?_)
      simp only [hf.out, Oper.upon_enter]
      refine Calls.mono (HC.out _ y _ Fk (List.mem_of_getElem? Hx.out) Hb.out HR.out) ?_
      rintro en w2 ⟨rfl, hb2⟩
      have HB2 : Hid (Below w.heap.size w w2) := hide (Hb.out.trans (hb2.mono Hb.out.size))
      clear hb2
      cases hq : p y
      · have Hno2 : Hid ((l.take (j + 1)).any p = false) := hide (by rw [take_snoc Hx.out, List.any_append, Hno.out]; simp [hq])
        clear hq
        go_wp2_with fail
        go_roundw
        case rel => exact ⟨j + 1, by omega, by go_num, Hno2, HB2⟩
        case measure => simp [intOf]; omega
      · have Hyes : Hid ((l.take k).any p = true) := hide (by
          rw [List.any_eq_true]
          exact ⟨y, List.mem_of_getElem? (i := j) (by rw [List.getElem?_take, if_pos hlt]; exact Hx.out), hq⟩)
        clear hq
        go_wp2_with fail
        go_ret
        exact ⟨⟨_, rfl, by rw [Hyes.out]; exact decide_eq_true hj0⟩, HB2.out⟩
    · have hjk : j = k := by omega
      subst hjk
      go_wp2_with fail
      go_ret
      exact ⟨⟨-1, rfl, by rw [Hno.out]; rfl⟩, Hb.out⟩
theorem con_Occ2 {α : Type} {R : CR α} (hG : Good 2 R) (f : Nat) (hf : Ent f) (c1 : Value) (c2 : Value) (p : α → Bool) (l : List α) (A : Option Addr) (cap k : Nat) (F : List Nat) (w : World) (hs : SlR 2 R w l (.slice A l.length cap) F) (hk : k ≤ l.length) (hc : ∀ (W : World) (y : α) (cs : List Value) (Fk : List Nat), y ∈ l → Below w.heap.size w W → R W y cs Fk → Calls Tryz.prog f #[.agg cs.toArray, c1, c2] W fun en w' => en = .returned (.bool (p y)) ∧ Below W.heap.size W w') :
    Calls Tryz.prog 46 #[.slice A k cap, .func (.func f) #[] #[c1, c2]] w fun en w' => en = .returned (.bool ((l.take k).any p)) ∧ Below w.heap.size w w' := by
  have HI := hide (idx_Occ2 hG f hf c1 c2 p l A cap k F w hs hk hc)
  generalize (l.take k).any p = q at HI
  clear hs hc
  go_enter Tryz.func46, Tryz.ntmps46
  go_wp2_with fail
  refine Calls.mono HI.out ?_
  rintro en w2 ⟨⟨r, rfl, hr⟩, hb⟩
  have Hr := hide hr
  clear hr
  go_wp2_with fail
  go_ret
  exact ⟨ret_bool Hr.out, hb⟩
theorem conA_Occ2 {α : Type} {R : CR α} (hG : Good 2 R) (f : Nat) (hf : Ent f) (c1 : Value) (c2 : Value) (p : α → Bool) (l : List α) (A : Option Addr) (cap : Nat) (F : List Nat) (w : World) (hs : SlR 2 R w l (.slice A l.length cap) F) (hc : ∀ (W : World) (y : α) (cs : List Value) (Fk : List Nat), y ∈ l → Below w.heap.size w W → R W y cs Fk → Calls Tryz.prog f #[.agg cs.toArray, c1, c2] W fun en w' => en = .returned (.bool (p y)) ∧ Below W.heap.size W w') :
    Calls Tryz.prog 46 #[.slice A l.length cap, .func (.func f) #[] #[c1, c2]] w fun en w' => en = .returned (.bool (l.any p)) ∧ Below w.heap.size w w' := by
  have h := con_Occ2 hG f hf c1 c2 p l A cap l.length F w hs (Nat.le_refl _) hc
  rw [List.take_length] at h
  exact h
set_option maxRecDepth 100000 in
theorem idx_Eqn1 {α : Type} {R : CR α} (hG : Good 9 R) (f : Nat) (hf : Ent f) (c1 : Value) (p : α → Bool) (l : List α) (A : Option Addr) (cap k : Nat) (F : List Nat) (w : World) (hs : SlR 9 R w l (.slice A l.length cap) F) (hk : k ≤ l.length) (hc : ∀ (W : World) (y : α) (cs : List Value) (Fk : List Nat), y ∈ l → Below w.heap.size w W → R W y cs Fk → Calls Tryz.prog f #[.agg cs.toArray, c1] W fun en w' => en = .returned (.bool (p y)) ∧ Below W.heap.size W w') :
    Calls Tryz.prog 86 #[.slice A k cap, .func (.func f) #[] #[c1]] w fun en w' => IdxOk ((l.take k).any p) en ∧ Below w.heap.size w w' := by
  obtain ⟨_, hlc, hm⟩ := hs.bnd
  unfold maxLen at hm
  have hkm : k ≤ 9223372036854775807 := by omega
  have HF := hide (hs.lt hG)
  have Hs := hide hs
  have HC := hide hc
  have Hi : Hid ((Tryz.prog.info? 88).map (·.size) = some 9) := hide (by kernel_rfl)
  clear hs hc hlc hm
  go_enter Tryz.func86, Tryz.ntmps86
  go_wp2_with fail
  go_loopw [8] (fun i wr => ∃ j : Nat, j ≤ k ∧ i = .int .i64 j ∧ Hid ((l.take j).any p = false) ∧ Hid (Below w.heap.size w wr)) (fun i _ => k - (intOf i).toNat)
  case atStart => exact ⟨0, by omega, rfl, hide rfl, hide (Below.refl _ _)⟩
  case round =>
    obtain ⟨j, hj, rfl, Hno, Hb⟩ := hrel
    by_cases hlt : j < k
    · have hx : l[j]? = some (l[j]'(by omega)) := List.getElem?_eq_getElem _
      generalize l[j]'(by omega) = y at hx
      have Hx := hide hx
      obtain ⟨b, off, cs, Fk, hA, _, hbF, hFk, hcl, hcat, hR⟩ := SlR.get hG (Hs.out.below hG Hb.out HF.out) hx
      subst hA
      have HR := hide hR
      have hblt := Nat.lt_of_lt_of_le (HF.out b hbF) Hb.out.size
      have Hn := hide hcl
      have Hc := hide hcat
      have hj0 : (0 : Int) ≤ (j : Int) := by omega
      have hj1 : (j : Int) < (k : Int) := by omega
      clear hx hR hcat hFk hbF hcl
      go_wp2_with (first
        | refine wpList_load_at 88 (.tmp 14) rfl Tryz.underlying88 rfl Hi.out rfl rfl Hn.out Hc.out ?_)
      simp only [hf.out, Oper.upon_enter]
      refine Calls.mono (HC.out _ y _ Fk (List.mem_of_getElem? Hx.out) Hb.out HR.out) ?_
      rintro en w2 ⟨rfl, hb2⟩
      have HB2 : Hid (Below w.heap.size w w2) := hide (Hb.out.trans (hb2.mono Hb.out.size))
      clear hb2
      cases hq : p y
      · have Hno2 : Hid ((l.take (j + 1)).any p = false) := hide (by rw [take_snoc Hx.out, List.any_append, Hno.out]; simp [hq])
        clear hq
        go_wp2_with fail
        go_roundw
        case rel => exact ⟨j + 1, by omega, by go_num, Hno2, HB2⟩
        case measure => simp [intOf]; omega
      · have Hyes : Hid ((l.take k).any p = true) := hide (by
          rw [List.any_eq_true]
          exact ⟨y, List.mem_of_getElem? (i := j) (by rw [List.getElem?_take, if_pos hlt]; exact Hx.out), hq⟩)
        clear hq
        go_wp2_with fail
        go_ret
        exact ⟨⟨_, rfl, by rw [Hyes.out]; exact decide_eq_true hj0⟩, HB2.out⟩
    · have hjk : j = k := by omega
      subst hjk
      go_wp2_with fail
      go_ret
      exact ⟨⟨-1, rfl, by rw [Hno.out]; rfl⟩, Hb.out⟩
theorem con_Eqn1 {α : Type} {R : CR α} (hG : Good 9 R) (f : Nat) (hf : Ent f) (c1 : Value) (p : α → Bool) (l : List α) (A : Option Addr) (cap k : Nat) (F : List Nat) (w : World) (hs : SlR 9 R w l (.slice A l.length cap) F) (hk : k ≤ l.length) (hc : ∀ (W : World) (y : α) (cs : List Value) (Fk : List Nat), y ∈ l → Below w.heap.size w W → R W y cs Fk → Calls Tryz.prog f #[.agg cs.toArray, c1] W fun en w' => en = .returned (.bool (p y)) ∧ Below W.heap.size W w') :
    Calls Tryz.prog 49 #[.slice A k cap, .func (.func f) #[] #[c1]] w fun en w' => en = .returned (.bool ((l.take k).any p)) ∧ Below w.heap.size w w' := by
  have HI := hide (idx_Eqn1 hG f hf c1 p l A cap k F w hs hk hc)
  generalize (l.take k).any p = q at HI
  clear hs hc
  go_enter Tryz.func49, Tryz.ntmps49
  go_wp2_with fail
  refine Calls.mono HI.out ?_
  rintro en w2 ⟨⟨r, rfl, hr⟩, hb⟩
  have Hr := hide hr
  clear hr
  go_wp2_with fail
  go_ret
  exact ⟨ret_bool Hr.out, hb⟩
theorem conA_Eqn1 {α : Type} {R : CR α} (hG : Good 9 R) (f : Nat) (hf : Ent f) (c1 : Value) (p : α → Bool) (l : List α) (A : Option Addr) (cap : Nat) (F : List Nat) (w : World) (hs : SlR 9 R w l (.slice A l.length cap) F) (hc : ∀ (W : World) (y : α) (cs : List Value) (Fk : List Nat), y ∈ l → Below w.heap.size w W → R W y cs Fk → Calls Tryz.prog f #[.agg cs.toArray, c1] W fun en w' => en = .returned (.bool (p y)) ∧ Below W.heap.size W w') :
    Calls Tryz.prog 49 #[.slice A l.length cap, .func (.func f) #[] #[c1]] w fun en w' => en = .returned (.bool (l.any p)) ∧ Below w.heap.size w w' := by
  have h := con_Eqn1 hG f hf c1 p l A cap l.length F w hs (Nat.le_refl _) hc
  rw [List.take_length] at h
  exact h
set_option maxRecDepth 100000 in
theorem idx_Ex2 {α : Type} {R : CR α} (hG : Good 7 R) (f : Nat) (hf : Ent f) (c1 : Value) (c2 : Value) (p : α → Bool) (l : List α) (A : Option Addr) (cap k : Nat) (F : List Nat) (w : World) (hs : SlR 7 R w l (.slice A l.length cap) F) (hk : k ≤ l.length) (hc : ∀ (W : World) (y : α) (cs : List Value) (Fk : List Nat), y ∈ l → Below w.heap.size w W → R W y cs Fk → Calls Tryz.prog f #[.agg cs.toArray, c1, c2] W fun en w' => en = .returned (.bool (p y)) ∧ Below W.heap.size W w') :
    Calls Tryz.prog 88 #[.slice A k cap, .func (.func f) #[] #[c1, c2]] w fun en w' => IdxOk ((l.take k).any p) en ∧ Below w.heap.size w w' := by
  obtain ⟨_, hlc, hm⟩ := hs.bnd
  unfold maxLen at hm
  have hkm : k ≤ 9223372036854775807 := by omega
  have HF := hide (hs.lt hG)
  have Hs := hide hs
  have HC := hide hc
  have Hi : Hid ((Tryz.prog.info? 86).map (·.size) = some 7) := hide (by kernel_rfl)
  clear hs hc hlc hm
  go_enter Tryz.func88, Tryz.ntmps88
  go_wp2_with fail
  go_loopw [8] (fun i wr => ∃ j : Nat, j ≤ k ∧ i = .int .i64 j ∧ Hid ((l.take j).any p = false) ∧ Hid (Below w.heap.size w wr)) (fun i _ => k - (intOf i).toNat)
  case atStart => exact ⟨0, by omega, rfl, hide rfl, hide (Below.refl _ _)⟩
  case round =>
    obtain ⟨j, hj, rfl, Hno, Hb⟩ := hrel
    by_cases hlt : j < k
    · have hx : l[j]? = some (l[j]'(by omega)) := List.getElem?_eq_getElem _
      generalize l[j]'(by omega) = y at hx
      have Hx := hide hx
      obtain ⟨b, off, cs, Fk, hA, _, hbF, hFk, hcl, hcat, hR⟩ := SlR.get hG (Hs.out.below hG Hb.out HF.out) hx
      subst hA
      have HR := hide hR
      have hblt := Nat.lt_of_lt_of_le (HF.out b hbF) Hb.out.size
      have Hn := hide hcl
      have Hc := hide hcat
      have hj0 : (0 : Int) ≤ (j : Int) := by omega
      have hj1 : (j : Int) < (k : Int) := by omega
      clear hx hR hcat hFk hbF hcl
      go_wp2_with (first
        | refine wpList_load_at 86 (.tmp 14) rfl Tryz.underlying86 rfl Hi.out rfl rfl Hn.out Hc.out ?_)
      simp only [hf.out, Oper.upon_enter]
      refine Calls.mono (HC.out _ y _ Fk (List.mem_of_getElem? Hx.out) Hb.out HR.out) ?_
      rintro en w2 ⟨rfl, hb2⟩
      have HB2 : Hid (Below w.heap.size w w2) := hide (Hb.out.trans (hb2.mono Hb.out.size))
      clear hb2
      cases hq : p y
      · have Hno2 : Hid ((l.take (j + 1)).any p = false) := hide (by rw [take_snoc Hx.out, List.any_append, Hno.out]; simp [hq])
        clear hq
        go_wp2_with fail
        go_roundw
        case rel => exact ⟨j + 1, by omega, by go_num, Hno2, HB2⟩
        case measure => simp [intOf]; omega
      · have Hyes : Hid ((l.take k).any p = true) := hide (by
          rw [List.any_eq_true]
          exact ⟨y, List.mem_of_getElem? (i := j) (by rw [List.getElem?_take, if_pos hlt]; exact Hx.out), hq⟩)
        clear hq
        go_wp2_with fail
        go_ret
        exact ⟨⟨_, rfl, by rw [Hyes.out]; exact decide_eq_true hj0⟩, HB2.out⟩
    · have hjk : j = k := by omega
      subst hjk
      go_wp2_with fail
      go_ret
      exact ⟨⟨-1, rfl, by rw [Hno.out]; rfl⟩, Hb.out⟩
theorem con_Ex2 {α : Type} {R : CR α} (hG : Good 7 R) (f : Nat) (hf : Ent f) (c1 : Value) (c2 : Value) (p : α → Bool) (l : List α) (A : Option Addr) (cap k : Nat) (F : List Nat) (w : World) (hs : SlR 7 R w l (.slice A l.length cap) F) (hk : k ≤ l.length) (hc : ∀ (W : World) (y : α) (cs : List Value) (Fk : List Nat), y ∈ l → Below w.heap.size w W → R W y cs Fk → Calls Tryz.prog f #[.agg cs.toArray, c1, c2] W fun en w' => en = .returned (.bool (p y)) ∧ Below W.heap.size W w') :
    Calls Tryz.prog 53 #[.slice A k cap, .func (.func f) #[] #[c1, c2]] w fun en w' => en = .returned (.bool ((l.take k).any p)) ∧ Below w.heap.size w w' := by
  have HI := hide (idx_Ex2 hG f hf c1 c2 p l A cap k F w hs hk hc)
  generalize (l.take k).any p = q at HI
  clear hs hc
  go_enter Tryz.func53, Tryz.ntmps53
  go_wp2_with fail
  refine Calls.mono HI.out ?_
  rintro en w2 ⟨⟨r, rfl, hr⟩, hb⟩
  have Hr := hide hr
  clear hr
  go_wp2_with fail
  go_ret
  exact ⟨ret_bool Hr.out, hb⟩
theorem conA_Ex2 {α : Type} {R : CR α} (hG : Good 7 R) (f : Nat) (hf : Ent f) (c1 : Value) (c2 : Value) (p : α → Bool) (l : List α) (A : Option Addr) (cap : Nat) (F : List Nat) (w : World) (hs : SlR 7 R w l (.slice A l.length cap) F) (hc : ∀ (W : World) (y : α) (cs : List Value) (Fk : List Nat), y ∈ l → Below w.heap.size w W → R W y cs Fk → Calls Tryz.prog f #[.agg cs.toArray, c1, c2] W fun en w' => en = .returned (.bool (p y)) ∧ Below W.heap.size W w') :
    Calls Tryz.prog 53 #[.slice A l.length cap, .func (.func f) #[] #[c1, c2]] w fun en w' => en = .returned (.bool (l.any p)) ∧ Below w.heap.size w w' := by
  have h := con_Ex2 hG f hf c1 c2 p l A cap l.length F w hs (Nat.le_refl _) hc
  rw [List.take_length] at h
  exact h
set_option maxRecDepth 100000 in
theorem idx_Atr0 {α : Type} {R : CR α} (hG : Good 4 R) (f : Nat) (hf : Ent f) (p : α → Bool) (l : List α) (A : Option Addr) (cap k : Nat) (F : List Nat) (w : World) (hs : SlR 4 R w l (.slice A l.length cap) F) (hk : k ≤ l.length) (hc : ∀ (W : World) (y : α) (cs : List Value) (Fk : List Nat), y ∈ l → Below w.heap.size w W → R W y cs Fk → Calls Tryz.prog f #[.agg cs.toArray] W fun en w' => en = .returned (.bool (p y)) ∧ Below W.heap.size W w') :
    Calls Tryz.prog 43 #[.slice A k cap, .func (.func f) #[] #[]] w fun en w' => IdxOk ((l.take k).any p) en ∧ Below w.heap.size w w' := by
  obtain ⟨_, hlc, hm⟩ := hs.bnd
  unfold maxLen at hm
  have hkm : k ≤ 9223372036854775807 := by omega
  have HF := hide (hs.lt hG)
  have Hs := hide hs
  have HC := hide hc
  have Hi : Hid ((Tryz.prog.info? 44).map (·.size) = some 4) := hide (by kernel_rfl)
  clear hs hc hlc hm
  go_enter Tryz.func43, Tryz.ntmps43
  go_wp2_with fail
  go_loopw [8] (fun i wr => ∃ j : Nat, j ≤ k ∧ i = .int .i64 j ∧ Hid ((l.take j).any p = false) ∧ Hid (Below w.heap.size w wr)) (fun i _ => k - (intOf i).toNat)
  case atStart => exact ⟨0, by omega, rfl, hide rfl, hide (Below.refl _ _)⟩
  case round =>
    obtain ⟨j, hj, rfl, Hno, Hb⟩ := hrel
    by_cases hlt : j < k
    · have hx : l[j]? = some (l[j]'(by omega)) := List.getElem?_eq_getElem _
      generalize l[j]'(by omega) = y at hx
      have Hx := hide hx
      obtain ⟨b, off, cs, Fk, hA, _, hbF, hFk, hcl, hcat, hR⟩ := SlR.get hG (Hs.out.below hG Hb.out HF.out) hx
      subst hA
      have HR := hide hR
      have hblt := Nat.lt_of_lt_of_le (HF.out b hbF) Hb.out.size
      have Hn := hide hcl
      have Hc := hide hcat
      have hj0 : (0 : Int) ≤ (j : Int) := by omega
      have hj1 : (j : Int) < (k : Int) := by omega
      clear hx hR hcat hFk hbF hcl
      go_wp2_with (first
        | refine wpList_load_at 44 (.tmp 14) rfl Tryz.underlying44 rfl Hi.out rfl rfl Hn.out Hc.out ?_)
      simp only [hf.out, Oper.upon_enter]
      refine Calls.mono (HC.out _ y _ Fk (List.mem_of_getElem? Hx.out) Hb.out HR.out) ?_
      rintro en w2 ⟨rfl, hb2⟩
      have HB2 : Hid (Below w.heap.size w w2) := hide (Hb.out.trans (hb2.mono Hb.out.size))
      clear hb2
      cases hq : p y
      · have Hno2 : Hid ((l.take (j + 1)).any p = false) := hide (by rw [take_snoc Hx.out, List.any_append, Hno.out]; simp [hq])
        clear hq
        go_wp2_with fail
        go_roundw
        case rel => exact ⟨j + 1, by omega, by go_num, Hno2, HB2⟩
        case measure => simp [intOf]; omega
      · have Hyes : Hid ((l.take k).any p = true) := hide (by
          rw [List.any_eq_true]
          exact ⟨y, List.mem_of_getElem? (i := j) (by rw [List.getElem?_take, if_pos hlt]; exact Hx.out), hq⟩)
        clear hq
        go_wp2_with fail
        go_ret
        exact ⟨⟨_, rfl, by rw [Hyes.out]; exact decide_eq_true hj0⟩, HB2.out⟩
    · have hjk : j = k := by omega
      subst hjk
      go_wp2_with fail
      go_ret
      exact ⟨⟨-1, rfl, by rw [Hno.out]; rfl⟩, Hb.out⟩
theorem con_Atr0 {α : Type} {R : CR α} (hG : Good 4 R) (f : Nat) (hf : Ent f) (p : α → Bool) (l : List α) (A : Option Addr) (cap k : Nat) (F : List Nat) (w : World) (hs : SlR 4 R w l (.slice A l.length cap) F) (hk : k ≤ l.length) (hc : ∀ (W : World) (y : α) (cs : List Value) (Fk : List Nat), y ∈ l → Below w.heap.size w W → R W y cs Fk → Calls Tryz.prog f #[.agg cs.toArray] W fun en w' => en = .returned (.bool (p y)) ∧ Below W.heap.size W w') :
    Calls Tryz.prog 18 #[.slice A k cap, .func (.func f) #[] #[]] w fun en w' => en = .returned (.bool ((l.take k).any p)) ∧ Below w.heap.size w w' := by
  have HI := hide (idx_Atr0 hG f hf  p l A cap k F w hs hk hc)
  generalize (l.take k).any p = q at HI
  clear hs hc
  go_enter Tryz.func18, Tryz.ntmps18
  go_wp2_with fail
  refine Calls.mono HI.out ?_
  rintro en w2 ⟨⟨r, rfl, hr⟩, hb⟩
  have Hr := hide hr
  clear hr
  go_wp2_with fail
  go_ret
  exact ⟨ret_bool Hr.out, hb⟩
theorem conA_Atr0 {α : Type} {R : CR α} (hG : Good 4 R) (f : Nat) (hf : Ent f) (p : α → Bool) (l : List α) (A : Option Addr) (cap : Nat) (F : List Nat) (w : World) (hs : SlR 4 R w l (.slice A l.length cap) F) (hc : ∀ (W : World) (y : α) (cs : List Value) (Fk : List Nat), y ∈ l → Below w.heap.size w W → R W y cs Fk → Calls Tryz.prog f #[.agg cs.toArray] W fun en w' => en = .returned (.bool (p y)) ∧ Below W.heap.size W w') :
    Calls Tryz.prog 18 #[.slice A l.length cap, .func (.func f) #[] #[]] w fun en w' => en = .returned (.bool (l.any p)) ∧ Below w.heap.size w w' := by
  have h := con_Atr0 hG f hf  p l A cap l.length F w hs (Nat.le_refl _) hc
  rw [List.take_length] at h
  exact h
theorem ent_shapeFault_1 : Ent 39 := hide fun args W => by kernel_rfl
theorem ent_shapeFault_2 : Ent 42 := hide fun args W => by kernel_rfl
theorem ent_missing_1 : Ent 48 := hide fun args W => by kernel_rfl
theorem ent_missing_1_1 : Ent 50 := hide fun args W => by kernel_rfl
theorem ent_extra_1 : Ent 52 := hide fun args W => by kernel_rfl
theorem ent_misuses_1 : Ent 55 := hide fun args W => by kernel_rfl
theorem ent_misuses_1_1 : Ent 57 := hide fun args W => by kernel_rfl
theorem ent_CheckShape_1 : Ent 19 := hide fun args W => by kernel_rfl
end Go.Proofs.YthlhhnnlbpecnaaGreat
