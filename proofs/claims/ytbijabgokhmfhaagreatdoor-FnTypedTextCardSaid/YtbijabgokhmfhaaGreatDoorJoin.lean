/- Texts joined: contracts of both sides. Conditions: at most 2^20 texts of together at most 2^20 bytes; the separator has at most 2^20 bytes. -/
import Derived.Test.YtbijabgokhmfhaaGreatDoorStrSl
import Derived.Test.YtbijabgokhmfhaaGreatDoorApp
import Derived.Test.YtbijabgokhmfhaaGreatDoorShelf
import Derived.Laws.IdiomStrings
import Derived.Lib.AppendStr
namespace Go.Proofs.YtbijabgokhmfhaaGreatDoor
set_option maxRecDepth 100000
open Go.RowKit Go.WideShapes
set_option linter.unusedVariables false

/-- Bytes as cells. -/
def bc (l : List UInt8) : List Value := l.map fun b => Value.int .u8 b.toNat
theorem bc_append (l : List UInt8) (s : ByteArray) : bc l ++ Lib.strCells s = bc (l ++ s.data.toList) := by simp [bc, Lib.strCells]
theorem bc_len (l : List UInt8) : (bc l).length = l.length := by simp [bc]
/-- A text appended to a row of bytes that the call owns. -/
theorem app_str {P : Program} {ops : Array Oper} {rest : List Oper} {o : Oper} {a : Act} {Q : Exit → Act → World → Prop} (hgd : o.guard = none) (sl x : Operand) (t u e : TypeId)
    (ho : o.op = .call { callee := .builtin .append, args := #[sl, x], argTypes := #[t, u] }) (ht : P.underlying t = some (.slice e)) (hu : P.underlying u = some .string)
    (hinfo : (P.info? e).map (fun i => (i.zero, i.size, i.bytes)) = some (some (.int .u8 0), 1, 1)) (wr : World) (base : Nat) (v : Value) (l : List UInt8)
    (hown : wr.ownsRow base e 1 v l.length (bc l)) (hs : a.eval sl = v) (s : ByteArray) (hx : a.eval x = .string s) (hn : l.length + s.size ≤ 140737488355328) (hbase : base ≤ wr.heap.size)
    (h : ∀ v' w', w'.ownsRow base e 1 v' (l ++ s.data.toList).length (bc (l ++ s.data.toList)) → Below base wr w' → wpList P ops Q rest (a.put o.dst v') w') : wpList P ops Q (o :: rest) a wr := by
  obtain ⟨i0, hi, hz0, hz1, hz2⟩ := info_parts hinfo
  refine Lib.wpList_append_own_string _ hgd sl x t u ho base e i0 ht hu hi hz0 hz1 hz2 v l.length (bc l) hs hown s hx (by unfold maxLen; omega) hn hbase ?_
  intro v' w' h1 h2 _
  have hl : (l ++ s.data.toList).length = l.length + s.size := by rw [List.length_append, Array.length_toList]; rfl
  refine h v' w' (by rw [hl, ← bc_append]; exact h1) ((Below.refl base wr).grown h2 hbase fun k hk => (hown.lt k hk).1)
/-- The bytes of an owned row, taken as a text. -/
theorem str_own {P : Program} {w : World} {base : Nat} {v : Value} {l : List UInt8} {src e dst : TypeId} (hs : P.underlying src = some (.slice e)) (he : P.underlying e = some (.int .u8)) (hd : P.underlying dst = some .string)
    (h : w.ownsRow base e 1 v l.length (bc l)) : (convert src dst v).run P w = .ok (.string ⟨l.toArray⟩) w := by
  rcases h.2 with ⟨rfl, h0⟩ | ⟨g, cap, cur, rfl, _⟩
  · have : l = [] := List.length_eq_zero_iff.1 h0
    subst this
    exact run_convert_bytes_nil w src e hs he 0 0 dst hd
  · refine run_convert_bytes_back w src dst e _ cap l hs he hd fun j hj => ?_
    have := h.cellAt j (by omega)
    unfold Addr.add
    split
    · rename_i h0
      subst h0
      rw [this]; simp [bc, List.getElem?_eq_getElem hj]
    · rw [show (0 : Nat) + j = j by omega, this]; simp [bc, List.getElem?_eq_getElem hj]

/-- What texts make when joined, in bytes. -/
def joinL (xs : List ByteArray) (s : ByteArray) : List UInt8 := Lib.join (xs.map (·.data.toList)) s.data.toList
theorem joinL_nil (s : ByteArray) : joinL [] s = [] := rfl
theorem joinL_first {xs : List ByteArray} {s x : ByteArray} (hx : xs[0]? = some x) : joinL (xs.take 1) s = joinL (xs.take 0) s ++ x.data.toList := by
  cases xs with
  | nil => simp at hx
  | cons y r => simp at hx; subst hx; simp [joinL, Lib.join_one, Lib.join_nil]
theorem joinL_next {xs : List ByteArray} {s x : ByteArray} {j : Nat} (hj : 0 < j) (hx : xs[j]? = some x) : joinL (xs.take (j + 1)) s = joinL (xs.take j) s ++ s.data.toList ++ x.data.toList := by
  cases xs with
  | nil => simp at hx
  | cons y r =>
    obtain ⟨k, rfl⟩ : ∃ k, j = k + 1 := ⟨j - 1, by omega⟩
    simp only [List.getElem?_cons_succ] at hx
    have := Lib.joinTail_take_succ s.data.toList (r.map (·.data.toList)) k x.data.toList (by simp [hx])
    simp only [joinL, List.take_succ_cons, List.map_cons, Lib.join_cons, List.map_take, this, List.append_assoc]
theorem lens_bulk (xs : List ByteArray) : (Lib.lens (xs.map (·.data.toList)) : Int) = bulkS xs := by
  induction xs with
  | nil => rfl
  | cons x r ih =>
    have e : x.data.toList.length = x.size := by rw [Array.length_toList]; rfl
    simp only [Lib.lens, List.map_cons, List.sum_cons, bulkS] at ih ⊢
    rw [e]
    omega
theorem joinL_len {xs : List ByteArray} {s : ByteArray} (hs : s.size ≤ 1048576) (hl : xs.length ≤ 1048576) (hb : bulkS xs ≤ 1099511627776) (j : Nat) : (joinL (xs.take j) s).length ≤ 2199023255552 := by
  have hb' : bulkS (xs.take j) ≤ 1099511627776 := by
    have := Lib.lens_take_le (xs.map (·.data.toList)) j
    rw [← List.map_take] at this
    have h1 := lens_bulk (xs.take j)
    have h2 := lens_bulk xs
    omega
  have hl' : (xs.take j).length ≤ 1048576 := Nat.le_trans (List.length_take_le' _ _) hl
  generalize xs.take j = ys at hb' hl'
  cases ys with
  | nil => simp [joinL_nil]
  | cons y r =>
    have e : s.data.toList.length = s.size := by rw [Array.length_toList]; rfl
    have h1 := lens_bulk (y :: r)
    have h2 := Lib.join_length y.data.toList (r.map (·.data.toList)) s.data.toList
    have h3 : s.size * r.length ≤ 1048576 * 1048576 := Nat.mul_le_mul hs (by simp at hl'; omega)
    unfold joinL
    simp only [List.map_cons] at h1 ⊢
    rw [h2, e, List.length_map]
    omega
theorem infoU8 : (Tryz.prog.info? 5).map (fun i => (i.zero, i.size, i.bytes)) = some (some (.int .u8 0), 1, 1) := by kernel_rfl
set_option maxRecDepth 100000 in
set_option maxHeartbeats 800000 in
theorem s_Join (D : Nat) (xs : List ByteArray) (v : Value) (F : List Nat) (w : World) (hs : SlR 1 (StrR D) w xs v F) (s : ByteArray) (hss : s.size ≤ 1048576) (hn : xs.length ≤ 1048576) (hb : bulkS xs ≤ 1099511627776) :
    Calls Tryz.prog 29 #[v, .string s] w fun en w' => en = .returned (.string ⟨(joinL xs s).toArray⟩) ∧ Below w.heap.size w w' := by
  obtain ⟨A, cap, rfl, _, _⟩ := hs.form
  obtain ⟨hr, hx⟩ := hs.strs
  have HF := hide (hs.lt (StrR.good D))
  have Hs := hide hs
  have Hlen := hide (joinL_len (s := s) hss hn hb)
  have Hx : Hid (∀ (j : Nat) x, xs[j]? = some x → (x.size : Int) ≤ 1099511627776) := hide fun j x hx => by
    have h1 := Lib.lens_take_succ (xs.map (·.data.toList)) j x.data.toList (by simp [hx])
    have h2 := Lib.lens_take_le (xs.map (·.data.toList)) (j + 1)
    have h3 := lens_bulk xs
    have e : x.data.toList.length = x.size := by rw [Array.length_toList]; rfl
    omega
  have hlm : xs.length ≤ 9223372036854775807 := by omega
  clear hs hr hx hb
  go_enter Tryz.func29, Tryz.ntmps29
  go_wp2_with fail
  go_loopw [5, 6] (fun o i wr => ∃ j : Nat, j ≤ xs.length ∧ i = .int .i64 j ∧ Hid (wr.ownsRow w.heap.size 5 1 o (joinL (xs.take j) s).length (bc (joinL (xs.take j) s))) ∧ Hid (Below w.heap.size w wr)) (fun _ i _ => xs.length - (intOf i).toNat)
  case atStart => exact ⟨0, by omega, rfl, hide ⟨rfl, .inr ⟨w.heap.size, 0, #[], rfl, Nat.le_refl _, heap_alloc_new w _, Nat.le_refl _, by simp [maxLen], rfl, rfl⟩⟩, hide ((Below.refl _ _).alloc (Nat.le_refl _) _)⟩
  case round =>
    obtain ⟨j, hj, rfl, Ho, Hb⟩ := hrel
    by_cases hlt : j < xs.length
    · have hx : xs[j]? = some xs[j] := List.getElem?_eq_getElem hlt
      generalize xs[j] = x at hx
      obtain ⟨b, off, cs, Fk, hA, _, hbF, hFk, hcl, hcat, hR⟩ := SlR.get (StrR.good D) (Hs.out.below (StrR.good D) Hb.out HF.out) hx
      subst hA
      obtain ⟨rfl, _, _⟩ := hR
      have e0 : wr.cell? ⟨b, off + j, none⟩ = some (.string x) := by
        have := hcat 0 _ rfl
        rwa [Nat.mul_one, Nat.add_zero] at this
      have hblt := HF.out b hbF
      have hj0 : (0 : Int) ≤ (j : Int) := by omega
      have hj1 : (j : Int) < (xs.length : Int) := by omega
      have HX := hide hx
      have hbz := Hb.out.size
      have hxz := Hx.out j x hx
      have hll := Hlen.out j
      clear hx hcat hFk hbF hcl
      by_cases hp : (0 : Int) < (j : Int)
      · have Hk := hide (joinL_next (s := s) (show 0 < j by omega) HX.out)
        generalize joinL (xs.take j) s = l0 at Ho hll Hk
        have ec : ∀ W : World, Below w.heap.size wr W → W.cell? ⟨b, off + j, none⟩ = some (.string x) := fun W h => (h.cell (p := ⟨b, off + j, none⟩) hblt).trans e0
        have hl1 : (l0 ++ s.data.toList).length + x.size ≤ 140737488355328 := by
          have h1 : (l0 ++ s.data.toList).length = l0.length + s.size := by rw [List.length_append, Array.length_toList]; rfl
          omega
        go_wp2_with (first
          | (at_builtin; refine app_str rfl (.tmp 16) (.tmp 17) 25 9 5 rfl Tryz.underlying25 Tryz.underlying9 infoU8 wr w.heap.size _ l0 Ho.out rfl s rfl (by omega) hbz ?_; intro v1 w1 hown1 hbl1)
          | (at_builtin; refine app_str rfl (.tmp 19) (.tmp 23) 25 9 5 rfl Tryz.underlying25 Tryz.underlying9 infoU8 w1 w.heap.size _ (l0 ++ s.data.toList) hown1 rfl x rfl hl1 (Nat.le_trans hbz hbl1.size) ?_; intro v2 w2 hown2 hbl2))
        go_roundw
        case rel =>
          refine ⟨j + 1, by omega, by go_num, hide ?_, hide ((Hb.out.trans hbl1).trans hbl2)⟩
          rw [Hk.out]
          exact hown2
        case measure => simp [intOf]; omega
      · obtain rfl : j = 0 := by omega
        rw [Nat.add_zero] at e0
        have hj2 : (0 : Int) < (xs.length : Int) := by omega
        have Hk := hide (joinL_first (s := s) HX.out)
        generalize joinL (xs.take 0) s = l0 at Ho hll Hk
        go_wp2_with (at_builtin; refine app_str rfl (.tmp 19) (.tmp 23) 25 9 5 rfl Tryz.underlying25 Tryz.underlying9 infoU8 wr w.heap.size _ _ Ho.out rfl x rfl (by omega) hbz ?_; intro v2 w2 hown hbl
                     have Hown2 := hide hown
                     have Hbl2 := hide hbl
                     clear hown hbl)
        go_roundw
        case rel =>
          refine ⟨1, by omega, by go_num, hide ?_, hide (Hb.out.trans Hbl2.out)⟩
          rw [Hk.out]
          exact Hown2.out
        case measure => simp [intOf]; omega
    · have hjl : j = xs.length := by omega
      subst hjl
      have hcv := str_own (P := Tryz.prog) (src := 25) (dst := 9) Tryz.underlying25 Tryz.underlying5 Tryz.underlying9 Ho.out
      rw [List.take_length] at hcv
      go_wp2_with fail
      go_ret
      exact ⟨rfl, Hb.out⟩
theorem i_Join (D : Nat) (xs : List ByteArray) (v : Value) (F : List Nat) (w : World) (hs : SlR 1 (StrR D) w xs v F) (s : ByteArray) (hss : s.size ≤ 1048576) (hn : xs.length ≤ 1048576) (hb : bulkS xs ≤ 1099511627776) :
    Calls Tryz.prog 28 #[v, .string s] w fun en w' => en = .returned (.string ⟨(joinL xs s).toArray⟩) ∧ Below w.heap.size w w' := by
  have hc : Calls Tryz.prog 53 #[v, .string s] w fun en w' => en = .returned (.string ⟨(joinL xs s).toArray⟩) ∧ Below w.heap.size w w' := by
    have hl := joinL_len (s := s) hss hn hb xs.length
    rw [List.take_length] at hl
    obtain ⟨A, cap, rfl, hlc, _⟩ := hs.form
    obtain ⟨hr, _⟩ := hs.strs
    cases xs with
    | nil =>
      refine (Tryz.strings_Join_none A cap s w).mono ?_
      rintro e w' ⟨rfl, rfl⟩
      exact ⟨rfl, Below.refl _ _⟩
    | cons x r =>
      obtain ⟨b, off, rfl, hb', hc⟩ := hr.2 (by simp)
      refine (Tryz.strings_Join b off cap (x :: r) s w (fun j y hy => hc j _ (by rw [List.getElem?_map, hy]; rfl)) hb' (by omega) hlc (by unfold joinL at hl; omega)).mono ?_
      rintro e w' ⟨rfl, h⟩
      exact ⟨rfl, h⟩
  go_enter Tryz.func28, Tryz.ntmps28
  go_wp2_with (go_at_call 53; refine hc.mono ?_; rintro e w' ⟨rfl, hbl⟩)
  go_ret
  exact ⟨rfl, hbl⟩
end Go.Proofs.YtbijabgokhmfhaaGreatDoor
