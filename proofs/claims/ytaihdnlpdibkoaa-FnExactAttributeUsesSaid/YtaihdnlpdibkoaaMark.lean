/- Marks: the text that stands for a number; texts of a slice overwritten by marks, and held against them. Conditions: numbers from 1 to 2^40. -/
import Derived.Test.YtaihdnlpdibkoaaStrSl
import Derived.Laws.IdiomStrings
namespace Go.Proofs.Ytaihdnlpdibkoaa
set_option maxRecDepth 100000
open Go.RowKit

/-- The decimal digits of k ahead of acc. -/
def dgsF : Nat → Nat → List UInt8 → List UInt8
  | 0, _, acc => acc
  | f + 1, k, acc => if k = 0 then acc else dgsF f (k / 10) ((48 + UInt8.ofNat (k % 10)) :: acc)
def mkT (k : Nat) : ByteArray := ⟨(109 :: dgsF k k []).toArray⟩

theorem dgs_step {f kk : Nat} {acc : List UInt8} (hk : 0 < kk) (hf : kk ≤ f) : dgsF f kk acc = dgsF (f - 1) (kk / 10) ((48 + UInt8.ofNat (kk % 10)) :: acc) := by
  match f, hf with
  | 0, hf => omega
  | f + 1, hf => simp only [dgsF]; rw [if_neg (by omega)]; rfl
theorem dgs_end {f : Nat} {acc : List UInt8} : dgsF f 0 acc = acc := by cases f <;> simp [dgsF]
theorem run_digit (kk : Nat) (W : World) : (convert 59 9 (.slice (some ⟨W.heap.size, 0, none⟩) 1 1)).run Try.prog (W.alloc (.cells #[.int .u8 (48 + (kk : Int) % 10)] 5)) =
    .ok (.string ⟨#[(48 + UInt8.ofNat (kk % 10))]⟩) (W.alloc (.cells #[.int .u8 (48 + (kk : Int) % 10)] 5)) := by
  have h := run_convert_bytes_back (P := Try.prog) (W.alloc (.cells #[.int .u8 (48 + (kk : Int) % 10)] 5)) 59 9 5 ⟨W.heap.size, 0, none⟩ 1 [(48 + UInt8.ofNat (kk % 10))] Try.underlying59 Try.underlying5 Try.underlying9 (fun j hj => by
    have hj0 : j = 0 := by simpa using hj
    subst hj0
    show World.cell? _ ⟨W.heap.size, 0, none⟩ = _
    rw [cell_of_row _ _ 0 _ _ _ (heap_alloc_new W _)]
    have hm : kk % 10 < 10 := Nat.mod_lt _ (by omega)
    have h8 : (48 + UInt8.ofNat (kk % 10)).toNat = 48 + kk % 10 := by simp [UInt8.toNat_add, UInt8.toNat_ofNat']; omega
    have e : ([(48 + UInt8.ofNat (kk % 10))] : List UInt8)[0].toNat = 48 + kk % 10 := h8
    rw [e]
    simp)
  exact h
theorem l_markText (k : Nat) (h0 : 1 ≤ k) (h1 : k ≤ 1099511627776) (w : World) : Calls Try.prog 66 #[.int .i64 k] w fun e w' => e = .returned (.string (mkT k)) ∧ Below w.heap.size w w' := by
  go_enter Try.func66, Try.ntmps66
  go_wp2
  go_loopw [0, 3] (fun kv o wr => ∃ (kk f : Nat) (acc : List UInt8), kv = .int .i64 kk ∧ o = .string ⟨acc.toArray⟩ ∧ kk ≤ f ∧ Hid (dgsF f kk acc = dgsF k k []) ∧ acc.length + kk ≤ k ∧ Hid (Below w.heap.size w wr)) (fun kv _ _ => (intOf kv).toNat)
  case atStart => exact ⟨k, k, [], rfl, rfl, Nat.le_refl _, hide rfl, by simp, hide (Below.refl _ _)⟩
  case round =>
    obtain ⟨kk, f, acc, rfl, rfl, hf, Hd, hlen, Hb⟩ := hrel
    by_cases hk : 0 < kk
    · have hcv := run_digit kk wr
      have hst := hide (dgs_step (acc := acc) hk hf)
      have h10 : kk / 10 < kk := by omega
      go_wp2
      exact ⟨⟨kk / 10, f - 1, (48 + UInt8.ofNat (kk % 10)) :: acc, by go_num, rfl, by omega, hide (hst.out.symm.trans Hd.out), by simp; omega, hide (Hb.out.alloc Hb.out.size _)⟩, by simp [intOf]; omega⟩
    · have hk0 : kk = 0 := by omega
      have hmk : mkT k = ⟨#[109]⟩ ++ ⟨acc.toArray⟩ := by
        have h := Hd.out
        rw [hk0, dgs_end] at h
        unfold mkT
        rw [← h]
        rfl
      have Hmk := hide hmk
      clear hmk hk0
      go_wp2
      go_ret
      exact ⟨ret_string Hmk.out.symm, Hb.out⟩
/-! ### Slices of texts, marked -/
def marks (k n : Nat) : List ByteArray := (List.range n).map fun i => mkT (k + i)
theorem marks_len (k n : Nat) : (marks k n).length = n := by simp [marks]
theorem marks_succ (k n : Nat) : marks k (n + 1) = marks k n ++ [mkT (k + n)] := by simp [marks, List.range_succ]
theorem marks_at {k n j : Nat} (h : j < n) : (marks k n)[j]? = some (mkT (k + j)) := by simp [marks, h]
theorem marks_set {k j n : Nat} {xs : List ByteArray} (hl : xs.length = n) (hj : j < n) : ((marks k j ++ xs.drop j).map Value.string).set j (.string (mkT (k + j))) = (marks k (j + 1) ++ xs.drop (j + 1)).map Value.string := by
  have hd : xs.drop j = xs[j]'(by omega) :: xs.drop (j + 1) := List.drop_eq_getElem_cons (by omega)
  have hm : ((marks k j).map Value.string).length = j := by simp [marks_len]
  rw [hd, marks_succ]
  simp only [List.map_append, List.map_cons, List.map_nil]
  generalize (marks k j).map Value.string = m at hm
  clear hd
  subst hm
  simp
/-- All but the blocks F stands as it stood; new blocks may have come. -/
structure Apart (F : List Nat) (w w' : World) : Prop where
  os : w'.os = w.os
  tape : w'.tape = w.tape
  output : w'.output = w.output
  size : w.heap.size ≤ w'.heap.size
  block : ∀ b, b < w.heap.size → b ∉ F → w'.heap[b]? = w.heap[b]?
theorem Apart.refl (F : List Nat) (w : World) : Apart F w w := ⟨rfl, rfl, rfl, Nat.le_refl _, fun _ _ _ => rfl⟩
theorem Apart.trans {F : List Nat} {a b c : World} (h : Apart F a b) (g : Apart F b c) : Apart F a c :=
  ⟨g.os.trans h.os, g.tape.trans h.tape, g.output.trans h.output, Nat.le_trans h.size g.size, fun k hk hF => (g.block k (Nat.lt_of_lt_of_le hk h.size) hF).trans (h.block k hk hF)⟩
theorem Apart.of_below {F : List Nat} {w w' : World} (h : Below w.heap.size w w') : Apart F w w' := ⟨h.os, h.tape, h.output, h.size, fun k hk _ => h.block k hk⟩
theorem Apart.more {F G : List Nat} {w w' : World} (h : Apart F w w') (hFG : ∀ b ∈ F, b ∈ G) : Apart G w w' := ⟨h.os, h.tape, h.output, h.size, fun k hk hG => h.block k hk (fun hF => hG (hFG k hF))⟩
theorem Apart.below {F : List Nat} {w w' : World} {B : Nat} (h : Apart F w w') (hF : ∀ b ∈ F, B ≤ b) (hB : B ≤ w.heap.size) : Below B w w' :=
  ⟨h.os, h.tape, h.output, h.size, fun k hk => h.block k (by omega) (fun hm => by have := hF k hm; omega)⟩
theorem Apart.setCell {F : List Nat} {a w : World} (h : Apart F a w) {p : Addr} (hp : p.block ∈ F) (u : Value) : Apart F a (w.setCell p u) :=
  h.trans ⟨rfl, rfl, rfl, by simp [World.setCell], fun k _ hF => heap_setCell_other _ _ _ _ (fun e => hF (e ▸ hp))⟩
theorem SlR.apart {α : Type} {n : Nat} {R : CR α} (hR : Good n R) {w w' : World} {xs : List α} {v : Value} {F G : List Nat} (h : SlR n R w xs v G) (ha : Apart F w w') (hd : ∀ b ∈ G, b ∉ F) : SlR n R w' xs v G :=
  h.frame hR (fun k hk => ha.block k (h.lt hR k hk) (hd k hk)) ha.size
theorem Good.apart {α : Type} {n : Nat} {R : CR α} (hR : Good n R) {w w' : World} {x : α} {cs : List Value} {F G : List Nat} (h : R w x cs G) (ha : Apart F w w') (hd : ∀ b ∈ G, b ∉ F) : R w' x cs G :=
  hR.frame h (fun k hk => ha.block k (hR.lt h k hk) (hd k hk)) ha.size
theorem Fresh.apart {C : Nat} {w w' : World} {F G : List Nat} (h : Fresh C w G) (ha : Apart F w w') (hd : ∀ b ∈ G, b ∉ F) : Fresh C w' G := h.keep fun b hb => ha.block b (h.lt b hb) (hd b hb)
theorem setCell_far {w : World} {p : Addr} {u : Value} {k : Nat} (h : k ≠ p.block) : (w.setCell p u).heap[k]? = w.heap[k]? := heap_setCell_other _ _ _ _ h
theorem cellsAt_set {w : World} {b off j : Nat} {cs : Array Value} {t : TypeId} {us : List Value} {u : Value} (hb : w.heap[b]? = some (.cells cs t (0, 0))) (hj : off + j < cs.size) (h : CellsAt w b off us) :
    CellsAt (w.setCell ⟨b, off + j, none⟩ u) b off (us.set j u) := fun i v hv => by
  have h1 := heap_setCell_same w b (off + j) cs t u hb
  rw [cell_of_row _ _ _ _ _ _ h1, Array.getElem?_setIfInBounds]
  rw [List.getElem?_set] at hv
  by_cases hij : j = i
  · subst hij
    rw [if_pos rfl, if_pos hj]
    rw [if_pos rfl] at hv
    split at hv
    · exact hv
    · cases hv
  · rw [if_neg (by omega)]
    rw [if_neg hij] at hv
    have := h i v hv
    rwa [cell_of_row _ _ _ _ _ _ hb] at this
theorem mkT_small {k : Nat} (hk : k ≤ 1099511627776) : (mkT k).size ≤ maxLen := by
  have h : ∀ (f kk : Nat) (acc : List UInt8), (dgsF f kk acc).length ≤ acc.length + kk := by
    intro f
    induction f with
    | zero => intro kk acc; simp [dgsF]
    | succ f ih =>
      intro kk acc
      simp only [dgsF]
      split
      · omega
      · rename_i hne
        have := ih (kk / 10) ((48 + UInt8.ofNat (kk % 10)) :: acc)
        simp only [List.length_cons] at this
        omega
  have := h k k []
  unfold mkT maxLen
  simp only [ByteArray.size, List.size_toArray, List.length_cons]
  simp at this
  omega

set_option maxRecDepth 100000 in
theorem m_Str (D C k : Nat) (xs : List ByteArray) (v : Value) (F : List Nat) (w : World) (hs : SlR 1 (StrR D) w xs v F) (hf : Fresh C w F) (hk : 1 ≤ k) (hkn : k + xs.length ≤ 1099511627776) :
    Calls Try.prog 49 #[v, .int .i64 k] w fun en w' => en = .returned (.int .i64 ((k + xs.length : Nat) : Int)) ∧ SlR 1 (StrR D) w' (marks k xs.length) v F ∧ Fresh C w' F ∧ Apart F w w' := by
  obtain ⟨A, cap, rfl, hlc, hm, hsl⟩ := hs
  rcases hsl with ⟨rfl, rfl⟩ | ⟨b, off, F', rfl, hb, rfl, he⟩
  · go_enter Try.func49, Try.ntmps49
    go_wp2_with fail
    go_loop [1, 5] (fun kv i => kv = .int .i64 k ∧ i = .int .i64 0) (fun _ _ => 0)
    case atStart => exact ⟨rfl, rfl⟩
    case round =>
      obtain ⟨rfl, rfl⟩ := hrel
      go_wp2_with fail
      go_ret
      exact ⟨rfl, ⟨A, cap, rfl, hlc, hm, .inl ⟨rfl, rfl⟩⟩, hf, Apart.refl _ _⟩
  obtain ⟨rfl, hxl, hc⟩ := he.strs
  obtain ⟨cs0, t, hblk⟩ := hf.cells b (by simp)
  have hsz : 0 < xs.length → off + xs.length ≤ cs0.size := fun h0 => by
    have := hc (xs.length - 1) _ (List.getElem?_eq_getElem (by simp; omega))
    rw [cell_of_row _ _ _ _ _ _ hblk] at this
    have := (Array.getElem?_eq_some_iff.1 this).1
    omega
  have Hf := hide hf
  have Hxl := hide hxl
  have hmm := hm
  unfold maxLen at hmm
  have hlm : xs.length ≤ 9223372036854775807 := by omega
  have Hm := hide (And.intro hlc hm)
  generalize hn : xs.length = n at *
  have Hn := hide hn
  have Hcs := hide hc
  have Hblk := hide hblk
  clear hn hf hxl hc he hblk hlc hm hmm
  go_enter Try.func49, Try.ntmps49
  go_wp2_with fail
  go_loopw [1, 5] (fun kv i wr => ∃ j : Nat, j ≤ n ∧ i = .int .i64 j ∧ kv = .int .i64 ((k + j : Nat) : Int) ∧ Hid (CellsAt wr b off ((marks k j ++ xs.drop j).map Value.string)) ∧ Hid (∃ cs, wr.heap[b]? = some (.cells cs t (0, 0)) ∧ (0 < n → off + n ≤ cs.size)) ∧ Hid (Apart [b] w wr)) (fun _ i _ => n - (intOf i).toNat)
  case atStart => exact ⟨0, by omega, rfl, rfl, hide (by rw [show marks k 0 = [] from rfl, List.nil_append, List.drop_zero]; exact Hcs.out), hide ⟨cs0, Hblk.out, hsz⟩, hide (Apart.refl _ _)⟩
  case round =>
    obtain ⟨j, hj, rfl, rfl, Hc, Hbk, Ha⟩ := hrel
    by_cases hlt : j < n
    · have hj0 : (0 : Int) ≤ (j : Int) := by omega
      have hj1 : (j : Int) < (n : Int) := by omega
      go_wp2_with fail
      refine (l_markText (k + j) (by omega) (by omega) _).mono ?_
      rintro e w2 ⟨rfl, hb2⟩
      obtain ⟨cs, hcs, hcz⟩ := Hbk.out
      have hcs2 := blk_below hcs hb2 (blk_lt hcs)
      have q := cell_at (i := off + j) hcs2 (by omega)
      have g := frozen_of_row w2 b (off + j) _ _ hcs2
      have Hb2 := hide hb2
      have Hcs2 := hide hcs2
      have Hlt := hide (blk_lt hcs)
      clear hb2 hcs2 hcs
      go_wp2_with fail
      go_roundw
      case rel =>
        refine ⟨j + 1, by omega, by go_num, by go_num, hide ?_, hide ⟨_, heap_setCell_same _ _ _ _ _ _ Hcs2.out, fun _ => by simp; omega⟩, hide ((Ha.out.trans (Apart.of_below Hb2.out)).setCell (by simp) _)⟩
        rw [← marks_set Hn.out hlt]
        exact cellsAt_set Hcs2.out (by omega) (Hc.out.below Hb2.out Hlt.out)
      case measure => simp [intOf]; omega
    · have hjn : j = n := by omega
      subst hjn
      go_wp2_with fail
      go_ret
      have h1 := Hc.out
      rw [List.drop_eq_nil_of_le (by rw [Hn.out]; exact Nat.le_refl _), List.append_nil] at h1
      obtain ⟨cs, hcs, hcz⟩ := Hbk.out
      refine ⟨rfl, ⟨some ⟨b, off, none⟩, cap, by rw [marks_len], by rw [marks_len]; exact Hm.out.1, Hm.out.2, .inr ⟨b, off, [], rfl, blk_lt hcs, rfl, ElR.of_strs (fun x hx => ?_) h1⟩⟩, ⟨Hf.out.nodup, Hf.out.from_, fun c hc => ?_⟩, Ha.out⟩
      · simp only [marks, List.mem_map, List.mem_range] at hx
        obtain ⟨i, hi, rfl⟩ := hx
        exact mkT_small (by omega)
      · simp at hc
        subst hc
        exact ⟨cs, t, hcs⟩
set_option maxRecDepth 100000 in
theorem hd_Str (D k : Nat) (n : Nat) (v : Value) (F : List Nat) (w : World) (hs : SlR 1 (StrR D) w (marks k n) v F) (hk : 1 ≤ k) (hkn : k + n ≤ 1099511627776) :
    Calls Try.prog 52 #[v, .int .i64 k] w fun en w' => en = .returned (.int .i64 ((k + n : Nat) : Int)) ∧ Below w.heap.size w w' := by
  obtain ⟨A, cap, rfl, hlc, hm⟩ := hs.form
  have HF := hide (hs.lt (StrR.good D))
  have Hs := hide hs
  rw [marks_len] at hlc hs ⊢
  unfold maxLen at hm
  have hlm : n ≤ 9223372036854775807 := by omega
  clear hs hlc hm
  go_enter Try.func52, Try.ntmps52
  go_wp2_with fail
  go_loopw [1, 5] (fun kv i wr => ∃ j : Nat, j ≤ n ∧ i = .int .i64 j ∧ kv = .int .i64 ((k + j : Nat) : Int) ∧ Hid (Below w.heap.size w wr)) (fun _ i _ => n - (intOf i).toNat)
  case atStart => exact ⟨0, by omega, rfl, rfl, hide (Below.refl _ _)⟩
  case round =>
    obtain ⟨j, hj, rfl, rfl, Hb⟩ := hrel
    by_cases hlt : j < n
    · have hx := marks_at (k := k) hlt
      obtain ⟨b, off, cs, Fk, hA, _, hbF, hFk, hcl, hcat, hR⟩ := SlR.get (StrR.good D) (Hs.out.below (StrR.good D) Hb.out HF.out) hx
      subst hA
      obtain ⟨rfl, _, _⟩ := hR
      have hblt := Nat.lt_of_lt_of_le (HF.out b hbF) Hb.out.size
      have e0 : ∀ W : World, Below wr.heap.size wr W → W.cell? ⟨b, off + j, none⟩ = some (.string (mkT (k + j))) := fun W h => by
        have := (hcat.below h hblt) 0 _ rfl
        rwa [Nat.mul_one, Nat.add_zero] at this
      have hj0 : (0 : Int) ≤ (j : Int) := by omega
      have hj1 : (j : Int) < (n : Int) := by omega
      clear hx hcat hFk hbF hcl
      go_wp2_with fail
      go_region_held3 (fun W => Below wr.heap.size wr W)
        (first | assumption | exact Below.drew (by first | assumption | exact Below.refl _ _))
        ((go_at_call 66; refine Calls.mono (l_markText (k + j) (by omega) (by omega) _) ?_; rintro en w2 ⟨rfl, hb2⟩; have hB2 : Below wr.heap.size wr w2 := below_step (by (repeat (first | assumption | apply Below.drew | exact Below.refl _ _))) (Nat.le_refl _) hb2; clear hb2))
      have HB2 : Hid (Below w.heap.size w w2) := hide (Hb.out.trans (hB2.mono Hb.out.size))
      clear hB2
      go_wp2_with fail
      go_roundw
      case rel => exact ⟨j + 1, by omega, by go_num, by go_num, HB2⟩
      case measure => simp [intOf]; omega
    · have hjn : j = n := by omega
      subst hjn
      go_wp2_with fail
      go_ret
      exact ⟨rfl, Hb.out⟩
end Go.Proofs.Ytaihdnlpdibkoaa
