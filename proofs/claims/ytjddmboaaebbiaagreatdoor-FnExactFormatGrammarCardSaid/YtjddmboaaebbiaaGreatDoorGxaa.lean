/- Several texts of one proof in one file: What every law of this seat shares: a call that answers true and leaves all old memory as it was meets the row's post. The wrap of a law whose row lists package-level variables: the contract is handed what they hold and the world's shape. Plain: no program. Decimal numerals: the number of a text in a range; what the reference's reader and the program's reader find. Plain: no program. Names: what the functions on names return, in the program and in the reference. Slices of texts: sizes, copies, comparisons, searches. Slices of things of several cells, read as lists, with the blocks that they own. Plain: no program. What the walks of the exact laws share: boxes of parameters, cells that every later world keeps. Plain: no program. Slices of texts, told as slices of things: sizes, copies, comparisons. Marks: the text that stands for a number; texts of a slice overwritten by marks, and held against them. Contracts of the library functions that this seat calls, laid at the program by the kit's tool: each says what the function hands back. An integer in decimal: both sides. One element appended to a row that the call owns. Plain: no program. Texts joined: contracts of both sides. Rows that the call owns, of things of several cells that own blocks of their own: one appended, the row told as a slice. Plain: no program. Conditions: each theorem names its own. -/
import Derived.WalkKit
import Derived.ProofKit
import Derived.OpenShut
import Derived.Carry
import Derived.ShutString
import Derived.Deep.Draws
import Derived.Laws.Rows
import Derived.WideShapes
import Derived.HandedShaped
import Derived.LaidLaws
import Derived.LaidMore
import Derived.Stop.LaidErr
import Derived.Lib.ItoaLen
import Derived.Lib.AtoiTie
import Derived.Test.YtjddmboaaebbiaaGreatDoorRows
import Derived.WalkLawsBesides
import Derived.WalkSpells
import Derived.Deep.OwnRows
import Derived.Deep.QuietTactic
import Derived.BigQuiet
import Derived.Laws.MakeOwn
import Derived.Deep.RegionHeld3
import Derived.Sort.AtCall
import Derived.Laws.IdiomStrings
import Derived.Shelf.Strings.Builder1
import Derived.Shelf.Strings.Builder2
import Derived.Shelf.Strings.OnBuilder
import Derived.Shelf.Strconv.Itoa0
import Derived.Shelf.Strconv.Itoa1
import Derived.Shelf.LaysM
import Derived.Shelf.Strconv.Itoa2
import Derived.Shelf.Strconv.Itoa3
import Derived.Test.YtjddmboaaebbiaaGreatDoorProg
import Derived.Lib.AppendIntMem
import Derived.OwnWalk
import Derived.Lib.AppendStr

/- What every law of this seat shares: a call that answers true and leaves all old memory as it was meets the row's post. Conditions: the row names no package variable. -/
namespace Go.Proofs.YtjddmboaaebbiaaGreatDoor
set_option linter.unusedSimpArgs false
set_option linter.unusedVariables false
set_option maxRecDepth 100000
open Go.ChangeShapes Go.WideShapes Go.RowKit

section
variable {H : Type} {enc : TypeId × Value → H} {P : Program}

/-- Arguments read again, all at once, where all old memory is as it was. -/
theorem trodAll_below (hl : laidOutB P = true) {W W' : World} (hb : Below W.heap.size W W') {sp : Nat → Bool} :
    ∀ {ts : List TypeId} {vs : List Value} {ds : List (DataW H)} {ps : List MemPlace}, ts.all (fun t => P.readableRec t && decide (t < P.types.size)) = true →
      DataW.TrodAll enc P W 0 (fun _ => true) true ts vs ds ps → (∀ p ∈ ps, p.block < W.heap.size) → (∀ p ∈ ps, sp p.block = true) → DataW.TrodAll enc P W' 0 sp true ts vs ds ps
  | [], _, _, _, _, h, _, _ => by
    obtain ⟨rfl, rfl, rfl⟩ := trodAll_nil h
    exact trodAll_mk0
  | t :: ts, _, _, _, ht, h, hlt, hsp => by
    simp only [List.all_cons, Bool.and_eq_true, decide_eq_true_eq] at ht
    obtain ⟨v, vs1, d, ds1, a, b, rfl, rfl, rfl, h1, h2⟩ := trodAll_cons h
    exact ⟨a, b, WideElems.Trod_stays hl ht.1.1 ht.1.2 h1 (fun x hx => hb.same (hlt x (by simp [hx]))) (fun x hx => hsp x (by simp [hx])),
      trodAll_below hl hb ht.2 h2 (fun x hx => hlt x (by simp [hx])) (fun x hx => hsp x (by simp [hx])), rfl⟩

/-- THE ROW's LAST STEP: true was returned, old memory is as it was. -/
theorem law_post {f : Func} {s : ChangeSpec} {apart fresh handsOn again : Bool} {W W' : World} {args : Array Value} {ds gs : List (DataW H)} {before : List MemPlace} {tb : TypeId}
    (hW : DataW.Whole enc P f.params.toList s.vars apart W args.toList ds gs before) (hb : Below W.heap.size W W') (hl : laidOutB P = true)
    (hts : f.params.toList.all (fun t => P.readableRec t && decide (t < P.types.size)) = true) (hr : f.resultTypes = #[tb]) (ht : P.underlying tb = some .bool)
    (hs : s.vars = []) (hfn : s.fn H ds = { results := [.lit (.bool true)], args := ds }) : s.post enc P f apart fresh handsOn again W args (.bool true) W' := by
  have hlt : ∀ p ∈ before, p.block < W.heap.size := fun p hp => hW.lt p hp
  have hold : ∀ p ∈ before, (fun b => decide (b < W.heap.size)) p.block = true := fun p hp => by simpa using hlt p hp
  have hW0 := hW
  obtain ⟨p, q, hA, hV, hpq, hz, hn⟩ := hW
  rw [hs] at hV
  obtain ⟨rfl, rfl⟩ := trodVars_none hV
  obtain rfl : before = p := by simpa using hpq
  have hargs : ∀ sp : Nat → Bool, (∀ x ∈ before, sp x.block = true) → DataW.TrodAll enc P W' 0 sp true f.params.toList args.toList ds before := fun sp hsp => trodAll_below hl hb hts hA hlt hsp
  have hres : ∀ (b : Nat) (sp : Nat → Bool) (hd : Bool), DataW.TrodAll enc P W' b sp hd f.resultTypes.toList ((Value.bool true).resultList f.resultTypes.size) [.lit (.bool true)] [] := by
    intro b sp hd
    rw [hr]
    exact trodAll_cons_mk (shut_bool ht true) trodAll_mk0
  have hvars : ∀ sp : Nat → Bool, DataW.TrodVars enc P W' sp s.vars [] [] := fun sp => by rw [hs]; rfl
  have hf : s.fn H (ds ++ []) = { results := [.lit (.bool true)], args := ds } := by rw [List.append_nil]; exact hfn
  have e1 : (s.fn H (ds ++ [])).results = [.lit (.bool true)] := by rw [hf]
  have e2 : (s.fn H (ds ++ [])).args = ds := by rw [hf]
  have e3 : (s.fn H (ds ++ [])).vars = [] := by rw [hf]
  have rA : ∀ sp : Nat → Bool, (∀ x ∈ before, sp x.block = true) → DataW.TrodAll enc P W' 0 sp true f.params.toList args.toList (s.fn H (ds ++ [])).args before := fun sp hsp => by rw [e2]; exact hargs sp hsp
  have rR : ∀ (b : Nat) (sp : Nat → Bool) (hd : Bool), DataW.TrodAll enc P W' b sp hd f.resultTypes.toList ((Value.bool true).resultList f.resultTypes.size) (s.fn H (ds ++ [])).results [] := fun b sp hd => by rw [e1]; exact hres b sp hd
  have rV : ∀ sp : Nat → Bool, DataW.TrodVars enc P W' sp s.vars (s.fn H (ds ++ [])).vars [] := fun sp => by rw [e3]; exact hvars sp
  refine ⟨ds, [], before, [], before, [], hW0, rR _ _ _, rA _ hold, rV _, World.keptBut_mono (fun x hx => ⟨hx, Or.inr (by simpa using hx)⟩) (hb.frame (· ∈ before)), fun _ => ?_⟩
  · refine ⟨ok_one hr rfl (okWide_bool_mk ht true), _, _, ([] ++ before) ++ [], ⟨[] ++ before, [], trodAll_append (rA _ (fun _ _ => rfl)) (rR _ _ _), rV _, rfl, ?_, ?_⟩, ?_⟩
    · intro b off hp
      have hin : MemPlace.cell b off ∈ before := by simpa using hp
      rw [hb.frozen (hlt _ hin)]
      exact hz b off hin
    · intro ha
      simpa using hn ha
    · intro x hx _
      simpa using hx
end
/-- A fact kept from the walk's rules. -/
theorem hide {p : Prop} (h : p) : Hid p := h

/-! ### Slices of one-cell elements, nil let in -/
/-- The slice value '.slice A n c' holds the cells xs in w, in a block below B. -/
def Rd (w : World) (B : Nat) (A : Option Addr) (n : Nat) (xs : List Value) : Prop :=
  xs.length = n ∧ (0 < n → ∃ b off, A = some ⟨b, off, none⟩ ∧ b < B ∧ ∀ j u, xs[j]? = some u → w.cell? ⟨b, off + j, none⟩ = some u)

theorem Rd.keep {w w' : World} {B : Nat} {A : Option Addr} {n : Nat} {xs : List Value} (h : Rd w B A n xs) (hk : ∀ p : Addr, p.block < B → w'.cell? p = w.cell? p) : Rd w' B A n xs :=
  ⟨h.1, fun hn => by
    obtain ⟨b, off, e, hb, hc⟩ := h.2 hn
    exact ⟨b, off, e, hb, fun j u hu => (hk _ hb).trans (hc j u hu)⟩⟩
theorem Rd.below {w w' : World} {B : Nat} {A : Option Addr} {n : Nat} {xs : List Value} (h : Rd w B A n xs) (hb : Below B w w') : Rd w' B A n xs := h.keep fun _ hp => hb.cell hp
theorem Rd.more {w : World} {B B' : Nat} {A : Option Addr} {n : Nat} {xs : List Value} (h : Rd w B A n xs) (hB : B ≤ B') : Rd w B' A n xs :=
  ⟨h.1, fun hn => by
    obtain ⟨b, off, e, hb, hc⟩ := h.2 hn
    exact ⟨b, off, e, by omega, hc⟩⟩
theorem Rd.at_ {w : World} {B : Nat} {A : Option Addr} {n : Nat} {xs : List Value} (h : Rd w B A n xs) (hn : 0 < n) :
    ∃ b off, A = some ⟨b, off, none⟩ ∧ b < B ∧ ∀ j u, xs[j]? = some u → w.cell? ⟨b, off + j, none⟩ = some u := h.2 hn
theorem Rd.drewN {w : World} {B : Nat} {A : Option Addr} {n : Nat} {xs : List Value} (h : Rd w B A n xs) (k : Nat) : Rd (w.drewN k) B A n xs := h

theorem cell_lt {w : World} {a : Addr} {u : Value} (h : w.cell? a = some u) : a.block < w.heap.size := by
  rcases Nat.lt_or_ge a.block w.heap.size with hlt | hge
  · exact hlt
  · unfold World.cell? at h
    rw [Array.getElem?_eq_none hge] at h
    cases h
theorem cell_spot {w : World} {a : Addr} {u : Value} (h : w.cell? a = some u) : a.spot = none := by
  unfold World.cell? at h
  split at h
  · split at h
    · cases h
    · rename_i hs
      simpa using hs
  · cases h

/-- Cells behind an address, told by 'Addr.add'. -/
theorem Rd.of_add {w : World} {a : Addr} {n : Nat} {xs : List Value} (hl : xs.length = n) (hc : ∀ j u, xs[j]? = some u → w.cell? (a.add j) = some u) : Rd w w.heap.size (some a) n xs := by
  refine ⟨hl, fun hn => ?_⟩
  have h0 : xs[0]? = some (xs[0]'(by omega)) := List.getElem?_eq_getElem (by omega)
  have hc0 := hc 0 _ h0
  have hs := cell_spot hc0
  have hb := cell_lt hc0
  obtain ⟨b, off, spot⟩ := a
  simp [Addr.add] at hs hb
  subst hs
  refine ⟨b, off, rfl, hb, fun j u hu => ?_⟩
  have := hc j u hu
  unfold Addr.add at this
  split at this
  · rename_i hj
    subst hj
    exact this
  · exact this

section
variable {H : Type} {enc : TypeId × Value → H} {P : Program}
/-- A slice of integers that came in. -/
theorem open_intsR {w : World} {T E C : TypeId} {k : IntKind} {v : Value} {d : DataW H} {p : List MemPlace} (ht : P.underlying T = some (.slice E)) (he : P.underlying E = some (.int k)) (hC : P.cellsOf E = 1)
    (hv : Value.okWide P w .any C T v) (h : DataW.Trod enc P w 0 (fun _ => true) true T v d p) :
    ∃ A n c, ∃ zs : List Int, v = .slice A n c ∧ n ≤ c ∧ c ≤ maxLen ∧ Rd w w.heap.size A n (zs.map (Value.int k)) ∧ ∀ z ∈ zs, (Lit.int k z).wf = true := by
  obtain ⟨a0, len, cap, rfl⟩ := okWide_slice ht hv
  obtain ⟨fuel, hf⟩ := h
  rcases open_ints ht he hC hf with ⟨hcs, hx⟩ | ⟨a, len', cap', zs, hcs, _, hl, hm, hz, hx, hcell, hwz⟩
  · simp [Value.cells] at hcs
    obtain ⟨rfl, rfl, rfl⟩ := hcs
    exact ⟨none, 0, 0, [], rfl, Nat.le_refl _, by simp [maxLen], ⟨rfl, fun h => by omega⟩, by simp⟩
  · simp [Value.cells] at hcs
    obtain ⟨rfl, rfl, rfl⟩ := hcs
    simp at hz
    refine ⟨some a, len, cap, zs.take len, rfl, hl, hm, Rd.of_add (by simp; omega) fun j u hu => ?_, fun z hz' => hwz z (List.mem_of_mem_take hz')⟩
    rw [List.getElem?_map, List.getElem?_take] at hu
    split at hu
    · rename_i hj
      have hjz : j < zs.length := by omega
      rw [List.getElem?_eq_getElem hjz] at hu
      simp at hu
      subst hu
      rw [hcell j hjz]
      simp [List.getD, List.getElem?_eq_getElem hjz]
    · simp at hu

/-- A slice of strings that came in. -/
theorem open_strsR {w : World} {T E C : TypeId} {v : Value} {d : DataW H} {p : List MemPlace} (ht : P.underlying T = some (.slice E)) (he : P.underlying E = some .string) (hC : P.cellsOf E = 1)
    (hv : Value.okWide P w .any C T v) (h : DataW.Trod enc P w 0 (fun _ => true) true T v d p) :
    ∃ A n c, ∃ ss : List ByteArray, v = .slice A n c ∧ n ≤ c ∧ c ≤ maxLen ∧ Rd w w.heap.size A n (ss.map Value.string) ∧ ∀ z ∈ ss, z.size ≤ maxLen := by
  obtain ⟨a0, len, cap, rfl⟩ := okWide_slice ht hv
  obtain ⟨fuel, hf⟩ := h
  rcases open_strings ht he hC hf with ⟨hcs, hx⟩ | ⟨a, len', cap', zs, hcs, _, hl, hm, hz, hx, hcell, hwz⟩
  · simp [Value.cells] at hcs
    obtain ⟨rfl, rfl, rfl⟩ := hcs
    exact ⟨none, 0, 0, [], rfl, Nat.le_refl _, by simp [maxLen], ⟨rfl, fun h => by omega⟩, by simp⟩
  · simp [Value.cells] at hcs
    obtain ⟨rfl, rfl, rfl⟩ := hcs
    simp at hz
    refine ⟨some a, len, cap, zs.take len, rfl, hl, hm, Rd.of_add (by simp; omega) fun j u hu => ?_, fun z hz' => hwz z (List.mem_of_mem_take hz')⟩
    rw [List.getElem?_map, List.getElem?_take] at hu
    split at hu
    · rename_i hj
      have hjz : j < zs.length := by omega
      rw [List.getElem?_eq_getElem hjz] at hu
      simp at hu
      subst hu
      rw [hcell j hjz]
      simp [List.getD, List.getElem?_eq_getElem hjz]
    · simp at hu
end

/-- What a size function answers: -1, or what is left. -/
def Sized (need L : Int) (e : Ending) : Prop := ∃ r : Int, e = .returned (.int .i64 r) ∧ (r = -1 ∨ (0 ≤ r ∧ r = L - need))
theorem ret_int {k1 : IntKind} {a a' : Int} (h1 : a = a') : Ending.returned (.int k1 a) = .returned (.int k1 a') := by rw [h1]
theorem ret_bool {a a' : Bool} (h1 : a = a') : Ending.returned (.bool a) = .returned (.bool a') := by rw [h1]
theorem ret_string {a a' : ByteArray} (h1 : a = a') : Ending.returned (.string a) = .returned (.string a') := by rw [h1]
theorem ret3_int {k1 k2 k3 : IntKind} {a b c a' b' c' : Int} (h1 : a = a') (h2 : b = b') (h3 : c = c') : Ending.returned (.tuple #[.int k1 a, .int k2 b, .int k3 c]) = .returned (.tuple #[.int k1 a', .int k2 b', .int k3 c']) := by rw [h1, h2, h3]

theorem take_snoc {α : Type} {xs : List α} {k : Nat} {x : α} (h : xs[k]? = some x) : xs.take (k + 1) = xs.take k ++ [x] := by
  obtain ⟨hk, rfl⟩ := List.getElem?_eq_some_iff.1 h
  exact List.take_succ_eq_append_getElem hk
theorem Rd.get {w : World} {B : Nat} {A : Option Addr} {n k : Nat} {α : Type} {f : α → Value} {xs : List α} (h : Rd w B A n (xs.map f)) (hk : k < n) :
    ∃ b off x, A = some ⟨b, off, none⟩ ∧ b < B ∧ xs[k]? = some x ∧ w.cell? ⟨b, off + k, none⟩ = some (f x) := by
  obtain ⟨b, off, hA, hb, hc⟩ := h.2 (by omega)
  have hl : k < xs.length := by have := h.1; simp at this; omega
  exact ⟨b, off, xs[k], hA, hb, List.getElem?_eq_getElem hl, hc k _ (by simp [List.getElem?_eq_getElem hl])⟩
theorem Rd.len {w : World} {B : Nat} {A : Option Addr} {n : Nat} {α : Type} {f : α → Value} {xs : List α} (h : Rd w B A n (xs.map f)) : xs.length = n := by have := h.1; simpa using this
/-- A block of one-cell elements, just laid. -/
theorem Rd.new (w : World) (t : TypeId) (xs : List Value) : Rd (w.alloc (.cells xs.toArray t)) (w.heap.size + 1) (some ⟨w.heap.size, 0, none⟩) xs.length xs := by
  refine ⟨rfl, fun _ => ⟨_, _, rfl, by omega, fun j u hu => ?_⟩⟩
  rw [cell_of_row _ _ _ xs.toArray t (0, 0) (heap_alloc_new w _)]
  simpa using hu
theorem bytes_at {s : ByteArray} {k : Nat} (h : k < s.size) : s.data.toList[k]? = some s[k] := by
  rw [List.getElem?_eq_getElem (by simpa using h)]
  rfl
theorem bytes_len (s : ByteArray) : s.data.toList.length = s.size := by simp
theorem byte_lt (c : UInt8) : (0 : Int) ≤ (c.toNat : Int) ∧ (c.toNat : Int) < 256 := by
  have := c.toNat_lt
  omega
theorem bytes_beq (a b : ByteArray) : (a.toList == b.toList) = decide (a = b) := by
  rw [Bool.eq_iff_iff]
  simp only [beq_iff_eq, decide_eq_true_eq, ByteArray.toList_eq]
  exact ⟨fun h => WideShapes.bytes_inj h, fun h => by rw [h]⟩

/-! ### Structs that came in, field by field -/
section
variable {H : Type} {enc : TypeId × Value → H} {P : Program} {w : World} {base fuel : Nat} {sp : Nat → Bool} {held : Bool} {t : TypeId} {fs : Array Field} {cs : List Value} {x : DataW H × List MemPlace}
theorem trod_len (ht : P.underlying t = some (.struct fs)) (h : DataW.trod enc P w base sp held fuel t cs = some x) : cs.length = P.cellsOf t := by
  obtain ⟨xs, n, _, _, hl, _, _⟩ := DataW.trod_struct ht h
  exact hl
theorem trod_field (i : Nat) (f : Field) (ht : P.underlying t = some (.struct fs)) (h : DataW.trod enc P w base sp held fuel t cs = some x) (hf : fs[i]? = some f) :
    ∃ n y, n < fuel ∧ DataW.trod enc P w base sp held n f.type ((cs.drop f.offset).take (P.cellsOf f.type)) = some y := by
  obtain ⟨xs, n, hn, _, _, hxl, hg⟩ := DataW.trod_struct ht h
  have hi : i < fs.size := (Array.getElem?_eq_some_iff.1 hf).1
  have h1 := hg i f hf
  rw [List.getElem?_eq_getElem (by omega)] at h1
  exact ⟨n, _, by omega, h1⟩
theorem field_int (i : Nat) (f : Field) {k : IntKind} (ht : P.underlying t = some (.struct fs)) (h : DataW.trod enc P w base sp held fuel t cs = some x) (hf : fs[i]? = some f) (he : P.underlying f.type = some (.int k)) (hc : P.cellsOf f.type = 1) :
    ∃ z, (cs.drop f.offset).take 1 = [.int k z] ∧ (Lit.int k z).wf = true := by
  obtain ⟨n, y, _, h1⟩ := trod_field i f ht h hf
  rw [hc] at h1
  obtain ⟨z, hz, _, hw⟩ := DataW.trod_int he h1
  exact ⟨z, hz, hw⟩
theorem field_bool (i : Nat) (f : Field) (ht : P.underlying t = some (.struct fs)) (h : DataW.trod enc P w base sp held fuel t cs = some x) (hf : fs[i]? = some f) (he : P.underlying f.type = some .bool) (hc : P.cellsOf f.type = 1) :
    ∃ z, (cs.drop f.offset).take 1 = [.bool z] := by
  obtain ⟨n, y, _, h1⟩ := trod_field i f ht h hf
  rw [hc] at h1
  obtain ⟨z, hz, _⟩ := DataW.trod_bool he h1
  exact ⟨z, hz⟩
theorem field_string (i : Nat) (f : Field) (ht : P.underlying t = some (.struct fs)) (h : DataW.trod enc P w base sp held fuel t cs = some x) (hf : fs[i]? = some f) (he : P.underlying f.type = some .string) (hc : P.cellsOf f.type = 1) :
    ∃ z, (cs.drop f.offset).take 1 = [.string z] ∧ z.size ≤ maxLen := by
  obtain ⟨n, y, _, h1⟩ := trod_field i f ht h hf
  rw [hc] at h1
  obtain ⟨z, hz, _, hw⟩ := DataW.trod_string he h1
  exact ⟨z, hz, hw⟩
/-- A struct by value: its cells. -/
theorem okWide_cells {r : Reach} {b0 : Nat} {v : Value} {d : DataW H} {p : List MemPlace} (ht : P.underlying t = some (.struct fs)) (hv : Value.okWide P w r b0 t v) (h : DataW.Trod enc P w base sp held t v d p) :
    ∃ cs fuel x, v = .agg cs ∧ DataW.trod enc P w base sp held fuel t cs.toList = some x := by
  obtain ⟨cs, rfl, _⟩ := okWide_struct ht hv
  obtain ⟨fuel, hf⟩ := h
  exact ⟨cs, fuel, _, rfl, hf⟩
end
theorem list4 {α : Type} {l : List α} (h : l.length = 4) : ∃ a b c d, l = [a, b, c, d] := by
  match l, h with
  | [a, b, c, d], _ => exact ⟨a, b, c, d, rfl⟩
theorem list2 {α : Type} {l : List α} (h : l.length = 2) : ∃ a b, l = [a, b] := by
  match l, h with
  | [a, b], _ => exact ⟨a, b, rfl⟩
theorem list7 {α : Type} {l : List α} (h : l.length = 7) : ∃ a b c d e f g, l = [a, b, c, d, e, f, g] := by
  match l, h with
  | [a, b, c, d, e, f, g], _ => exact ⟨a, b, c, d, e, f, g, rfl⟩

/-! ### Cells of one block -/
/-- The cells from ⟨b, off⟩ on hold cs. -/
def CellsAt (w : World) (b off : Nat) (cs : List Value) : Prop := ∀ j u, cs[j]? = some u → w.cell? ⟨b, off + j, none⟩ = some u
theorem CellsAt.frame {w w' : World} {b off : Nat} {cs : List Value} (h : CellsAt w b off cs) (hb : w'.heap[b]? = w.heap[b]?) : CellsAt w' b off cs := fun j u hu => by
  have := h j u hu
  unfold World.cell? at this ⊢
  rw [hb]
  exact this
theorem CellsAt.below {w w' : World} {b off B : Nat} {cs : List Value} (h : CellsAt w b off cs) (hb : Below B w w') (hB : b < B) : CellsAt w' b off cs := h.frame (hb.block b hB)
theorem CellsAt.lt {w : World} {b off : Nat} {cs : List Value} (h : CellsAt w b off cs) (hp : 0 < cs.length) : b < w.heap.size :=
  cell_lt (h 0 _ (List.getElem?_eq_getElem hp))
theorem CellsAt.new (w : World) (cs : List Value) (t : TypeId) : CellsAt (w.alloc (.cells cs.toArray t)) w.heap.size 0 cs := fun j u hu => by
  rw [cell_of_row _ _ _ _ _ _ (heap_alloc_new w _)]
  simpa using hu
theorem CellsAt.two {w : World} {b o : Nat} {a0 a1 : Value} (h : CellsAt w b o [a0, a1]) : w.cell? ⟨b, o, none⟩ = some a0 ∧ w.cell? ⟨b, o + 1, none⟩ = some a1 := ⟨h 0 _ rfl, h 1 _ rfl⟩
theorem CellsAt.four {w : World} {b o : Nat} {a0 a1 a2 a3 : Value} (h : CellsAt w b o [a0, a1, a2, a3]) :
    w.cell? ⟨b, o, none⟩ = some a0 ∧ w.cell? ⟨b, o + 1, none⟩ = some a1 ∧ w.cell? ⟨b, o + 2, none⟩ = some a2 ∧ w.cell? ⟨b, o + 3, none⟩ = some a3 := ⟨h 0 _ rfl, h 1 _ rfl, h 2 _ rfl, h 3 _ rfl⟩
theorem CellsAt.seven {w : World} {b o : Nat} {a0 a1 a2 a3 a4 a5 a6 : Value} (h : CellsAt w b o [a0, a1, a2, a3, a4, a5, a6]) :
    w.cell? ⟨b, o, none⟩ = some a0 ∧ w.cell? ⟨b, o + 1, none⟩ = some a1 ∧ w.cell? ⟨b, o + 2, none⟩ = some a2 ∧ w.cell? ⟨b, o + 3, none⟩ = some a3 ∧ w.cell? ⟨b, o + 4, none⟩ = some a4 ∧
      w.cell? ⟨b, o + 5, none⟩ = some a5 ∧ w.cell? ⟨b, o + 6, none⟩ = some a6 := ⟨h 0 _ rfl, h 1 _ rfl, h 2 _ rfl, h 3 _ rfl, h 4 _ rfl, h 5 _ rfl, h 6 _ rfl⟩
/-- At offset 0, as the walk writes it. -/
theorem CellsAt.two0 {w : World} {b : Nat} {a0 a1 : Value} (h : CellsAt w b 0 [a0, a1]) : w.cell? ⟨b, 0, none⟩ = some a0 ∧ w.cell? ⟨b, 1, none⟩ = some a1 := h.two
theorem CellsAt.four0 {w : World} {b : Nat} {a0 a1 a2 a3 : Value} (h : CellsAt w b 0 [a0, a1, a2, a3]) :
    w.cell? ⟨b, 0, none⟩ = some a0 ∧ w.cell? ⟨b, 1, none⟩ = some a1 ∧ w.cell? ⟨b, 2, none⟩ = some a2 ∧ w.cell? ⟨b, 3, none⟩ = some a3 := h.four
theorem CellsAt.seven0 {w : World} {b : Nat} {a0 a1 a2 a3 a4 a5 a6 : Value} (h : CellsAt w b 0 [a0, a1, a2, a3, a4, a5, a6]) :
    w.cell? ⟨b, 0, none⟩ = some a0 ∧ w.cell? ⟨b, 1, none⟩ = some a1 ∧ w.cell? ⟨b, 2, none⟩ = some a2 ∧ w.cell? ⟨b, 3, none⟩ = some a3 ∧ w.cell? ⟨b, 4, none⟩ = some a4 ∧
      w.cell? ⟨b, 5, none⟩ = some a5 ∧ w.cell? ⟨b, 6, none⟩ = some a6 := h.seven
/-- A call's own box of a parameter, then further calls: what is known of the start stays known. -/
theorem box_below {w w' : World} {o : Obj} (hb : Below (w.heap.size + 1) (w.alloc o) w') : Below w.heap.size w w' := ((Below.refl _ _).alloc (Nat.le_refl _) _).trans (hb.mono (by omega))
/-- A block that is known whole, read as a slice. -/
theorem Rd.blk {w : World} {b : Nat} {xs : List Value} {t : TypeId} {fr : Nat × Nat} (h : w.heap[b]? = some (.cells xs.toArray t fr)) : Rd w w.heap.size (some ⟨b, 0, none⟩) xs.length xs := by
  have hlt : b < w.heap.size := (Array.getElem?_eq_some_iff.1 h).1
  refine ⟨rfl, fun _ => ⟨_, _, rfl, hlt, fun j u hu => ?_⟩⟩
  rw [cell_of_row _ _ _ _ _ _ h]
  simpa using hu
theorem blk_below {w w' : World} {b B : Nat} {o : Obj} (h : w.heap[b]? = some o) (hb : Below B w w') (hB : b < B) : w'.heap[b]? = some o := (hb.block b hB).trans h
theorem blk_lt {w : World} {b : Nat} {o : Obj} (h : w.heap[b]? = some o) : b < w.heap.size := (Array.getElem?_eq_some_iff.1 h).1
end Go.Proofs.YtjddmboaaebbiaaGreatDoor

/- The wrap of a law whose row lists package-level variables: the contract is handed what they hold and the world's shape. Plain: no program. -/
namespace Go.Proofs.YtjddmboaaebbiaaGreatDoor
set_option linter.unusedSimpArgs false
set_option linter.unusedVariables false
set_option maxRecDepth 100000
open Go
variable {H : Type} {enc : TypeId × Value → H}
theorem returns_laid {a : Assume} {C : Checked} {os : Os} {f : FuncId} {fn : Func} {s : ChangeSpec} {conds : List PathCond} {apart fresh handsOn again : Bool} {X : World → Array Value → Prop}
    (hX : ∀ (w w' : World) (args : Array Value), w.heap = w'.heap → X w args → X w' args)
    (own : ownKnob C.prog.godebug = none) (started : os.Started) (noInit : C.prog.inits.idxOf? f = none) (hfn : C.prog.funcs[f]? = some fn)
    (witness : ∃ (w : World) (tape : Tape) (i : Input), w.os = os ∧ (w.forCall tape i).Shaped C.prog ∧ i.vars = [] ∧ Input.okWide C.prog (w.forCall tape i) .any w.heap.size f i ∧
      ((s.pre enc C.prog fn conds apart (w.forCall tape i).memory i.args ∧ X (w.forCall tape i).memory i.args) ∧ sizedMet enc C.prog fn (OpenSpec.ofChange s) apart (w.forCall tape i).memory i.args) ∧ a.holds C.prog (lone (Frame.enter C.prog f i.args .normal) [] (w.forCall tape i)))
    (contract : ∀ (W : World) (base : Nat) (args : Array Value) (ds gs : List (DataW H)) (before : List MemPlace),
      (∀ (j : Nat) t v, fn.params[j]? = some t → args[j]? = some v → Value.okWide C.prog W .any base t v) →
      DataW.Whole enc C.prog fn.params.toList s.vars apart W args.toList ds gs before →
      X W args → W.ShapedOpen C.prog →
      Calls C.prog f args W fun e W' => ∃ v, e = .returned v ∧ s.post enc C.prog fn apart fresh handsOn again W args v W') :
    ReturnsInHanded a C os f .any (fun w args => (s.pre enc C.prog fn conds apart w args ∧ X w args) ∧ sizedMet enc C.prog fn (OpenSpec.ofChange s) apart w args) (s.post enc C.prog fn apart fresh handsOn again) := by
  refine returnsInHanded_of_calls own started noInit witness ?_
  intro w tape i _ hsh _ hok hpre hholds
  obtain ⟨_, _, _, fn', hfn', _, _, _, _, hval⟩ := hok
  have e : fn' = fn := Option.some.inj (hfn'.symm.trans hfn)
  subst e
  obtain ⟨⟨⟨ds, gs, before, hw, hc⟩, hx⟩, hz⟩ := hpre
  have hw' := DataW.Whole.of_heap (w' := w.forCall tape i) (by rfl) hw
  refine (contract (w.forCall tape i) w.heap.size i.args ds gs before hval hw' (hX _ _ _ (by rfl) hx) hsh).mono fun e W' ⟨v, he, hp⟩ => ?_
  subst he
  exact ChangeSpec.post_blind hp
/-- The cells of a listed table. -/
def dcellsF : Nat → DataW Unit → List Value
  | 0, _ => []
  | _ + 1, .lit (.int k z) => [.int k z]
  | _ + 1, .lit (.string s) => [.string ⟨s.toArray⟩]
  | n + 1, .agg l => l.flatMap (dcellsF n)
  | _ + 1, _ => [undef]
def dcells (d : DataW Unit) : Array Value := (dcellsF 4 d).toArray
/-- A variable's block, laid. -/
def putG (cs : Array Value) : Obj → Obj
  | .cells _ t frozen => .cells cs t frozen
  | o => o
end Go.Proofs.YtjddmboaaebbiaaGreatDoor

/- Decimal numerals: the number of a text in a range; what the reference's reader and the program's reader find. Plain: no program. -/
namespace Go.Proofs.YtjddmboaaebbiaaGreatDoor
set_option linter.unusedSimpArgs false
set_option linter.unusedVariables false
set_option maxRecDepth 100000
open Go.Lib

theorem decFrom_append : ∀ (l r : List UInt8) (acc : Nat), decFrom acc (l ++ r) = (decFrom acc l).bind fun m => decFrom m r
  | [], _, _ => rfl
  | b :: l, r, acc => by
    simp only [List.cons_append, decFrom]
    cases digitVal b with
    | none => rfl
    | some d => exact decFrom_append l r _
theorem digitVal_dig {d : Nat} (h : d < 10) : digitVal (UInt8.ofNat (48 + d)) = some d := by
  have e : (UInt8.ofNat (48 + d)).toNat = 48 + d := by simp [UInt8.toNat_ofNat']; omega
  unfold digitVal
  rw [e, if_pos (by omega)]
  congr 1
  omega
theorem decFrom_decDigits (u : Nat) : ∀ acc, decFrom acc (decDigits u) = some (acc * 10 ^ nDigits u + u) := by
  induction u using Nat.strongRecOn with
  | _ u ih =>
    intro acc
    by_cases h : u < 10
    · rw [decDigits, dif_pos h, nDigits_small h]
      simp only [decFrom, digitVal_dig h, Nat.pow_one]
    · rw [decDigits, dif_neg h, nDigits_big h, decFrom_append, ih (u / 10) (by omega)]
      have hm : u % 10 < 10 := Nat.mod_lt _ (by omega)
      simp only [Option.bind_some, decFrom, digitVal_dig hm, Nat.pow_succ]
      congr 1
      have e : acc * (10 ^ nDigits (u / 10) * 10) = acc * 10 ^ nDigits (u / 10) * 10 := (Nat.mul_assoc _ _ _).symm
      rw [e]
      omega
theorem decDigits_ne (u : Nat) : decDigits u ≠ [] := fun h => by
  have := decDigits_length u
  rw [h] at this
  have := nDigits_pos u
  simp at *
  omega
theorem decNat_decDigits (u : Nat) : decNat (decDigits u) = some u := by
  unfold decNat
  rw [if_neg (by simpa using decDigits_ne u), decFrom_decDigits]
  simp
theorem decDigits_head {u : Nat} {b : UInt8} {r : List UInt8} (h : decDigits u = b :: r) : 48 ≤ b.toNat ∧ b.toNat ≤ 57 := by
  obtain ⟨d, hd⟩ := digit_of_decFrom (decDigits u) 0 _ (decFrom_decDigits u 0) 0 b (by rw [h]; rfl)
  have := digitVal_eq hd
  omega
theorem atoi_itoa (n : Int) : atoi (itoa n) = some n := by
  unfold itoa
  by_cases hn : n < 0
  · rw [if_pos hn]
    simp only [atoi, beq_self_eq_true, if_true, decNat_decDigits, Option.map_some]
    congr 1
    omega
  · rw [if_neg hn]
    cases hd : decDigits n.toNat with
    | nil => exact absurd hd (decDigits_ne _)
    | cons b r =>
      have hb := decDigits_head hd
      have h45 : (b == 45) = false := by rw [beq_eq_false_iff_ne]; rintro rfl; simp at hb
      have h43 : (b == 43) = false := by rw [beq_eq_false_iff_ne]; rintro rfl; simp at hb
      simp only [atoi, h45, h43, Bool.false_eq_true, if_false]
      rw [← hd, decNat_decDigits, Option.map_some]
      congr 1
      omega
/-- The number from lo to hi whose numeral a text is. -/
def numIn (s : List UInt8) (lo hi : Int) : Option Int := match atoi s with
  | some n => if lo ≤ n ∧ n ≤ hi ∧ itoa n = s then some n else none
  | none => none
theorem numIn_iff {s : List UInt8} {lo hi n : Int} : numIn s lo hi = some n ↔ itoa n = s ∧ lo ≤ n ∧ n ≤ hi := by
  constructor
  · intro h
    unfold numIn at h
    split at h
    · split at h
      · rename_i hc
        injection h with h
        subst h
        exact ⟨hc.2.2, hc.1, hc.2.1⟩
      · cases h
    · cases h
  · rintro ⟨rfl, h1, h2⟩
    unfold numIn
    rw [atoi_itoa]
    exact if_pos ⟨h1, h2, rfl⟩
theorem numIn_none {s : List UInt8} {lo hi : Int} (h : ∀ n, itoa n = s → lo ≤ n → n ≤ hi → False) : numIn s lo hi = none := by
  cases hn : numIn s lo hi with
  | none => rfl
  | some n =>
    obtain ⟨h1, h2, h3⟩ := numIn_iff.1 hn
    exact (h n h1 h2 h3).elim
theorem nDigits_le_of_lt : ∀ (k u : Nat), 1 ≤ k → u < 10 ^ k → nDigits u ≤ k
  | 0, _, h, _ => by omega
  | k + 1, u, _, h => by
    by_cases hu : u < 10
    · rw [nDigits_small hu]; omega
    · rw [nDigits_big hu]
      rw [Nat.pow_succ] at h
      have hk : 1 ≤ k := by
        rcases Nat.eq_zero_or_pos k with e | e
        · subst e; simp at h; omega
        · exact e
      have := nDigits_le_of_lt k (u / 10) hk (by omega)
      omega
theorem itoa_len {n : Int} {k : Nat} (hk : 1 ≤ k) (h1 : -((10 : Int) ^ k) < n) (h2 : n < (10 : Int) ^ k) : (itoa n).length ≤ k + 1 := by
  have e : ((10 ^ k : Nat) : Int) = (10 : Int) ^ k := by simp
  unfold itoa
  split
  · rw [List.length_cons, decDigits_length]
    have := nDigits_le_of_lt k n.natAbs hk (by omega)
    omega
  · rw [decDigits_length]
    have := nDigits_le_of_lt k n.toNat hk (by omega)
    omega
/-- The program's reader: by how Atoi ends. -/
theorem numIn_ok {s : List UInt8} {lo hi v : Int} (h1 : -1000000000000 < lo) (h2 : hi < 1000000000000) (h : atoiAll s = .ok v) : numIn s lo hi = if lo ≤ v ∧ v ≤ hi ∧ itoa v = s then some v else none := by
  split
  · rename_i hc
    exact numIn_iff.2 ⟨hc.2.2, hc.1, hc.2.1⟩
  · rename_i hc
    refine numIn_none fun n e g1 g2 => hc ?_
    have hl := itoa_len (n := n) (k := 12) (by omega) (by simp; omega) (by simp; omega)
    have ha := atoiAll_short (itoa n) (by omega)
    rw [atoi_itoa, e, h] at ha
    simp only [NumEnd.ofOption] at ha
    injection ha with ha
    subst ha
    exact ⟨g1, g2, e⟩
theorem numIn_bad {s : List UInt8} {lo hi : Int} (h1 : -1000000000000 < lo) (h2 : hi < 1000000000000) (h : ∀ v, atoiAll s ≠ .ok v) : numIn s lo hi = none := by
  refine numIn_none fun n e g1 g2 => h n ?_
  have hl := itoa_len (n := n) (k := 12) (by omega) (by simp; omega) (by simp; omega)
  have ha := atoiAll_short (itoa n) (by omega)
  rw [atoi_itoa, e] at ha
  exact ha
/-- The digits behind the sign. -/
def unsign (s : List UInt8) : List UInt8 := match s with
  | 45 :: r => r
  | _ => s
def signed? (s : List UInt8) : Bool := match s with
  | 45 :: _ => true
  | _ => false
/-- The reference's reader. -/
def readN (s : List UInt8) (most : Nat) : Option Int :=
  if (unsign s).length < 1 ∨ most < (unsign s).length then none else match decFrom 0 (unsign s) with
  | none => none
  | some m => if itoa (if signed? s then -(m : Int) else (m : Int)) = s then some (if signed? s then -(m : Int) else (m : Int)) else none
theorem itoa_parts (n : Int) : unsign (itoa n) = decDigits n.natAbs ∧ signed? (itoa n) = decide (n < 0) := by
  unfold itoa
  by_cases hn : n < 0
  · rw [if_pos hn]
    exact ⟨rfl, by simp [signed?, hn]⟩
  · rw [if_neg hn]
    have e : n.toNat = n.natAbs := by omega
    rw [e]
    cases hd : decDigits n.natAbs with
    | nil => exact absurd hd (decDigits_ne _)
    | cons b r =>
      have hb := decDigits_head hd
      have h45 : b ≠ 45 := by rintro rfl; simp at hb
      refine ⟨?_, ?_⟩
      · unfold unsign
        split
        · rename_i r' h
          injection h with h _
          exact absurd h h45
        · rfl
      · unfold signed?
        split
        · rename_i h
          injection h with h _
          exact absurd h h45
        · simp [hn]
theorem readN_eq (s : List UInt8) (most : Nat) (hm : 1 ≤ most) : readN s most = numIn s (-((10 : Int) ^ most) + 1) ((10 : Int) ^ most - 1) := by
  have e : ((10 ^ most : Nat) : Int) = (10 : Int) ^ most := by simp
  cases hr : readN s most with
  | some n =>
    symm
    rw [numIn_iff]
    unfold readN at hr
    by_cases hl : (unsign s).length < 1 ∨ most < (unsign s).length
    · rw [if_pos hl] at hr
      cases hr
    rw [if_neg hl] at hr
    cases hd : decFrom 0 (unsign s) with
    | none => rw [hd] at hr; cases hr
    | some m =>
      rw [hd] at hr
      have hlt := decFrom_lt _ 0 m hd
      have hp : 10 ^ (unsign s).length ≤ 10 ^ most := Nat.pow_le_pow_right (by omega) (by omega)
      have hr2 : (if itoa (if signed? s then -(m : Int) else (m : Int)) = s then some (if signed? s then -(m : Int) else (m : Int)) else none) = some n := hr
      generalize hv : (if signed? s then -(m : Int) else (m : Int)) = v at hr2
      by_cases he : itoa v = s
      · rw [if_pos he] at hr2
        injection hr2 with hr2
        subst hr2
        refine ⟨he, ?_, ?_⟩ <;> (rw [← hv]; split <;> omega)
      · rw [if_neg he] at hr2
        cases hr2
  | none =>
    symm
    refine numIn_none fun n hs g1 g2 => ?_
    subst hs
    obtain ⟨h1, h2⟩ := itoa_parts n
    have hlen : nDigits n.natAbs ≤ most := nDigits_le_of_lt most _ hm (by omega)
    have hpos := nDigits_pos n.natAbs
    unfold readN at hr
    rw [h1, h2, decDigits_length, if_neg (by omega), decFrom_decDigits] at hr
    simp only [Nat.zero_mul, Nat.zero_add] at hr
    have hn : (if decide (n < 0) = true then -(n.natAbs : Int) else (n.natAbs : Int)) = n := by
      split <;> rename_i h <;> simp at h <;> omega
    rw [hn, if_pos rfl] at hr
    cases hr
end Go.Proofs.YtjddmboaaebbiaaGreatDoor

/- Names: what the functions on names return, in the program and in the reference. Conditions: none on the text; a list's length fits an int. -/
namespace Go.Proofs.YtjddmboaaebbiaaGreatDoor
set_option linter.unusedSimpArgs false
set_option linter.unusedVariables false
set_option maxRecDepth 100000
open Go.RowKit
def resvL : List (List UInt8) := [[105, 102], [116, 104, 101, 110], [101, 108, 115, 101], [116, 114, 117, 101], [102, 97, 108, 115, 101], [108, 105, 116], [110, 111, 110, 101], [115, 101, 108, 102], [111, 102], [109, 97, 120], [109, 105, 110], [119, 105, 116, 104], [104, 97, 115]]
/-- A reserved word. -/
def resv (s : ByteArray) : Bool := resvL.any (fun t => s.toList == t)
/-- A text is among texts. -/
def hasS (xs : List ByteArray) (s : ByteArray) : Bool := xs.any (fun x => x.toList == s.toList)
theorem hasS_snoc (xs : List ByteArray) (x s : ByteArray) : hasS (xs ++ [x]) s = (hasS xs s || (x.toList == s.toList)) := by simp [hasS]
theorem hasS_mem {xs : List ByteArray} {x s : ByteArray} {k : Nat} (h : xs[k]? = some x) (he : (x.toList == s.toList) = true) : hasS xs s = true := by
  unfold hasS
  rw [List.any_eq_true]
  exact ⟨x, List.mem_of_getElem? h, he⟩
theorem hasS_resv (s : ByteArray) : hasS (resvL.map fun l => ⟨l.toArray⟩) s = resv s := by
  unfold hasS resv
  rw [List.any_map]
  congr 1
  funext t
  simp only [Function.comp_apply, ByteArray.toList_eq]
  rw [Bool.eq_iff_iff]
  simp only [beq_iff_eq]
  exact eq_comm

theorem i_IsReserved (s : ByteArray) (w : World) : Calls Tryz.prog 88 #[.string s] w fun e w' => e = .returned (.bool (resv s)) ∧ w = w' := by
  go_enter Tryz.func88, Tryz.ntmps88
  go_wp2
  all_goals (go_ret; refine ⟨ret_bool ?_, rfl⟩; unfold resv resvL)
  all_goals (simp_all; done)

theorem s_l1Has (A : Option Addr) (n c : Nat) (s : ByteArray) (xs : List ByteArray) (B : Nat) (w : World) (hr : Rd w B A n (xs.map Value.string)) (hm : n ≤ 9223372036854775807) :
    Calls Tryz.prog 111 #[.slice A n c, .string s] w fun e w' => e = .returned (.bool (hasS xs s)) ∧ w = w' := by
  go_enter Tryz.func111, Tryz.ntmps111
  go_wp2
  go_loop [5] (fun i => ∃ k : Nat, k ≤ n ∧ i = .int .i64 k ∧ hasS (xs.take k) s = false) (fun i => n - (intOf i).toNat)
  case atStart => exact ⟨0, by omega, rfl, rfl⟩
  case round =>
    obtain ⟨k, hk, rfl, hno⟩ := hrel
    have Hno := hide hno
    clear hno
    by_cases hlt : k < n
    · obtain ⟨b, off, x, hA, hb, hx, hc⟩ := hr.get hlt
      subst hA
      have Hx := hide hx
      clear hx
      cases he : (x.toList == s.toList)
      · go_wp2
        go_round
        case rel => exact ⟨k + 1, by omega, by go_num, by rw [take_snoc Hx.out, hasS_snoc, Hno.out, he]; rfl⟩
        case measure => simp [intOf]; omega
      · go_wp2
        go_ret
        exact ⟨ret_bool (hasS_mem Hx.out he).symm, rfl⟩
    · go_wp2
      go_ret
      exact ⟨ret_bool (by have h := Hno.out; rw [List.take_of_length_le (by have := hr.len; omega)] at h; exact h.symm), rfl⟩

theorem s_IsReserved (s : ByteArray) (w : World) : Calls Tryz.prog 76 #[.string s] w fun e w' => e = .returned (.bool (resv s)) ∧ Below w.heap.size w w' := by
  have hn : Rd _ _ _ _ _ := Rd.new w 9 ((resvL.map fun l => (⟨l.toArray⟩ : ByteArray)).map Value.string)
  simp only [resvL, List.map_cons, List.map_nil, List.length_cons, List.length_nil] at hn
  go_enter Tryz.func76, Tryz.ntmps76
  go_wp2_with (first
    | (go_at_call 111; refine (s_l1Has _ _ _ _ (resvL.map fun l => ⟨l.toArray⟩) _ _ hn (by omega)).mono ?_; rintro e w' ⟨rfl, rfl⟩)
    | go_in)
  go_ret
  exact ⟨ret_bool (hasS_resv s), (Below.refl _ _).alloc (Nat.le_refl _) _⟩

/-- A lower-case letter; a digit. -/
def low (c : UInt8) : Bool := decide (97 ≤ (c.toNat : Int) ∧ (c.toNat : Int) ≤ 122)
def dig (c : UInt8) : Bool := decide (48 ≤ (c.toNat : Int) ∧ (c.toNat : Int) ≤ 57)
def ldg (c : UInt8) : Bool := low c || dig c
def headLow (l : List UInt8) : Bool := match l with | [] => true | c :: _ => low c
def shT (l : List UInt8) : Bool := headLow l && l.all ldg
def validN (s : ByteArray) : Bool := shT s.data.toList && decide (0 < s.size) && decide (s.size ≤ 8) && !resv s
theorem shT_snoc (l : List UInt8) (c : UInt8) : shT (l ++ [c]) = (shT l && (low c || (!l.isEmpty && dig c))) := by
  cases l with
  | nil => simp [shT, headLow, ldg]; intro h; simp [h]
  | cons a r => simp [shT, headLow, ldg, Bool.and_assoc]
theorem shT_take_false {l : List UInt8} {k : Nat} (h : shT (l.take k) = false) : shT l = false := by
  rw [Bool.eq_false_iff] at h ⊢
  intro hl
  apply h
  unfold shT at hl ⊢
  rw [Bool.and_eq_true] at hl ⊢
  refine ⟨?_, List.all_eq_true.2 fun x hx => List.all_eq_true.1 hl.2 x (List.mem_of_mem_take hx)⟩
  cases k with
  | zero => rfl
  | succ k =>
    cases l with
    | nil => rfl
    | cons a r => exact hl.1

theorem i_isLower (c : UInt8) (w : World) : Calls Tryz.prog 86 #[.int .u8 (c.toNat : Int)] w fun e w' => e = .returned (.bool (low c)) ∧ w = w' := by
  by_cases h1 : 97 ≤ (c.toNat : Int)
  all_goals
    go_enter Tryz.func86, Tryz.ntmps86
    go_wp2
    go_ret
    exact ⟨ret_bool (by unfold low; rw [Bool.eq_iff_iff]; simp; omega), rfl⟩
theorem i_isDigit (c : UInt8) (w : World) : Calls Tryz.prog 87 #[.int .u8 (c.toNat : Int)] w fun e w' => e = .returned (.bool (dig c)) ∧ w = w' := by
  by_cases h1 : 48 ≤ (c.toNat : Int)
  all_goals
    go_enter Tryz.func87, Tryz.ntmps87
    go_wp2
    go_ret
    exact ⟨ret_bool (by unfold dig; rw [Bool.eq_iff_iff]; simp; omega), rfl⟩

theorem s_l2Shape (s : ByteArray) (w : World) (hs : s.size ≤ maxLen) : Calls Tryz.prog 75 #[.string s] w fun e w' => e = .returned (.bool (shT s.data.toList && decide (0 < s.size))) ∧ w = w' := by
  unfold maxLen at hs
  go_enter Tryz.func75, Tryz.ntmps75
  go_wp2
  go_loop [3] (fun i => ∃ k : Nat, k ≤ s.size ∧ i = .int .i64 k ∧ shT (s.data.toList.take k) = true) (fun i => s.size - (intOf i).toNat)
  case atStart => exact ⟨0, by omega, rfl, rfl⟩
  case round =>
    obtain ⟨k, hk, rfl, hno⟩ := hrel
    have Hno := hide hno
    clear hno
    by_cases hlt : k < s.size
    · have hsn := shT_snoc (s.data.toList.take k) s[k]
      have hem : (!(s.data.toList.take k).isEmpty) = decide (0 < k) := by
        cases k with
        | zero => rfl
        | succ k =>
          have h1 := bytes_len s
          cases hl : s.data.toList with
          | nil => rw [hl] at h1; simp at h1; omega
          | cons a r => simp
      have Hsn := hide hsn
      have Hem := hide hem
      clear hsn hem
      by_cases h1 : 97 ≤ (s[k].toNat : Int) <;> by_cases h2 : (s[k].toNat : Int) ≤ 122 <;> by_cases h3 : 48 ≤ (s[k].toNat : Int) <;> by_cases h4 : (s[k].toNat : Int) ≤ 57 <;> by_cases h5 : 0 < k
      all_goals (try (exfalso; omega))
      all_goals go_wp2
      all_goals first
        | (go_round
           case rel => exact ⟨k + 1, by omega, by go_num, by rw [take_snoc (bytes_at hlt), Hsn.out, Hno.out, Hem.out]; simp [low, dig]; omega⟩
           case measure => simp [intOf]; omega)
        | (go_ret
           refine ⟨ret_bool ?_, rfl⟩
           rw [shT_take_false (k := k + 1) (by rw [take_snoc (bytes_at hlt), Hsn.out, Hno.out, Hem.out]; simp [low, dig]; omega)]
           rfl)
    · go_wp2
      go_ret
      exact ⟨ret_bool (by have h := Hno.out; rw [List.take_of_length_le (by have := bytes_len s; omega)] at h; rw [h]; simp), rfl⟩

theorem s_IsValidName (s : ByteArray) (w : World) (hs : s.size ≤ maxLen) : Calls Tryz.prog 48 #[.string s] w fun e w' => e = .returned (.bool (validN s)) ∧ Below w.heap.size w w' := by
  cases h1 : (shT s.data.toList && decide (0 < s.size))
  · have hv : validN s = false := by unfold validN; rw [h1]; rfl
    have Hv := hide hv
    clear hv
    go_enter Tryz.func48, Tryz.ntmps48
    go_wp2_with (go_at_call 75; refine (s_l2Shape _ _ hs).mono ?_; rintro e w' ⟨rfl, rfl⟩)
    go_ret
    exact ⟨ret_bool Hv.out.symm, Below.refl _ _⟩
  · by_cases h2 : s.size ≤ 8
    · have hv : validN s = !resv s := by unfold validN; rw [h1]; simp [h2]
      have Hv := hide hv
      clear hv
      go_enter Tryz.func48, Tryz.ntmps48
      go_wp2_with (first
        | (go_at_call 75; refine (s_l2Shape _ _ hs).mono ?_; rintro e w' ⟨rfl, rfl⟩)
        | (go_at_call 76; refine (s_IsReserved _ _).mono ?_; rintro e w' ⟨rfl, hb⟩))
      go_ret
      exact ⟨ret_bool Hv.out.symm, hb⟩
    · have hv : validN s = false := by unfold validN; simp [h2]
      have Hv := hide hv
      clear hv
      go_enter Tryz.func48, Tryz.ntmps48
      go_wp2_with (go_at_call 75; refine (s_l2Shape _ _ hs).mono ?_; rintro e w' ⟨rfl, rfl⟩)
      go_ret
      exact ⟨ret_bool Hv.out.symm, Below.refl _ _⟩

theorem validN_false {s : ByteArray} {k : Nat} (hk : k < s.size) (h1 : low s[k] = false) (h2 : dig s[k] = false) : validN s = false := by
  have : shT s.data.toList = false := shT_take_false (k := k + 1) (by rw [take_snoc (bytes_at hk), shT_snoc, h1, h2]; simp)
  unfold validN
  rw [this]
  rfl
theorem validN_of {s : ByteArray} (h : (s.data.toList.take s.size).all ldg = true) (hp : 0 < s.size) (h8 : s.size ≤ 8) : validN s = (low (s[0]'hp) && !resv s) := by
  rw [List.take_of_length_le (by simp)] at h
  have hh : headLow s.data.toList = low (s[0]'hp) := by
    have h0 := bytes_at hp
    cases hl : s.data.toList with
    | nil => rw [hl] at h0; cases h0
    | cons a r => rw [hl] at h0; injection h0 with h0; rw [← h0]; rfl
  unfold validN shT
  rw [h, hh]
  simp [hp, h8]
theorem i_IsValidName (s : ByteArray) (w : World) (hs : s.size ≤ maxLen) : Calls Tryz.prog 55 #[.string s] w fun e w' => e = .returned (.bool (validN s)) ∧ w = w' := by
  unfold maxLen at hs
  go_enter Tryz.func55, Tryz.ntmps55
  go_wp2
  go_loop [6] (fun i => ∃ k : Nat, k ≤ s.size ∧ i = .int .i64 k ∧ (s.data.toList.take k).all ldg = true) (fun i => s.size - (intOf i).toNat)
  case atStart => exact ⟨0, by omega, rfl, rfl⟩
  case round =>
    obtain ⟨k, hk, rfl, hno⟩ := hrel
    have Hno := hide hno
    clear hno
    by_cases hlt : k < s.size
    · cases hL : low s[k] <;> cases hD : dig s[k]
      all_goals go_wp2_with (first
        | (go_at_call 86; refine (i_isLower _ _).mono ?_; rintro e w' ⟨rfl, rfl⟩)
        | (go_at_call 87; refine (i_isDigit _ _).mono ?_; rintro e w' ⟨rfl, rfl⟩))
      all_goals first
        | (go_round
           case rel => exact ⟨k + 1, by omega, by go_num, by rw [take_snoc (bytes_at hlt), List.all_append, Hno.out]; simp [ldg, hL, hD]⟩
           case measure => simp [intOf]; omega)
        | (go_ret
           exact ⟨ret_bool (validN_false hlt hL hD).symm, rfl⟩)
    · have hks : k = s.size := by omega
      have Hks := hide hks
      clear hks
      by_cases hp : 0 < s.size
      · by_cases h8 : s.size ≤ 8
        · cases hL : low (s[0]'hp) <;> cases hR : resv s
          all_goals
            go_wp2_with (first
              | (go_at_call 86; refine (i_isLower _ _).mono ?_; rintro e w' ⟨rfl, rfl⟩)
              | (go_at_call 88; refine (i_IsReserved _ _).mono ?_; rintro e w' ⟨rfl, rfl⟩)
              | go_in)
            go_ret
            exact ⟨ret_bool (by rw [validN_of (by rw [← Hks.out]; exact Hno.out) hp h8, hL, hR]; rfl), rfl⟩
        · go_wp2
          go_ret
          exact ⟨ret_bool (by unfold validN; simp [h8]), rfl⟩
      · go_wp2
        go_ret
        exact ⟨ret_bool (by unfold validN; simp [hp]), rfl⟩
end Go.Proofs.YtjddmboaaebbiaaGreatDoor

/- Slices of texts: sizes, copies, comparisons, searches. Conditions: the texts' lengths and the slice's length fit an int; a copy is asked of at most 2^20 texts. -/
namespace Go.Proofs.YtjddmboaaebbiaaGreatDoor
set_option linter.unusedSimpArgs false
set_option linter.unusedVariables false
set_option maxRecDepth 100000
open Go.RowKit

/-- The lengths of texts together, and one for each. -/
def bulkS : List ByteArray → Int
  | [] => 0
  | x :: r => x.size + bulkS r
theorem bulkS_nonneg : ∀ xs : List ByteArray, 0 ≤ bulkS xs
  | [] => Int.le_refl _
  | x :: r => by have := bulkS_nonneg r; simp only [bulkS]; omega
theorem bulkS_append (xs ys : List ByteArray) : bulkS (xs ++ ys) = bulkS xs + bulkS ys := by
  induction xs with
  | nil => simp [bulkS]
  | cons x r ih => simp only [List.cons_append, bulkS, ih]; omega
theorem bulkS_snoc (xs : List ByteArray) (x : ByteArray) : bulkS (xs ++ [x]) = bulkS xs + x.size := by rw [bulkS_append]; simp [bulkS]
theorem bulkS_take_le (xs : List ByteArray) (k : Nat) : bulkS (xs.take k) ≤ bulkS xs := by
  have h := bulkS_append (xs.take k) (xs.drop k)
  rw [List.take_append_drop] at h
  have := bulkS_nonneg (xs.drop k)
  omega
theorem bulkS_mem {xs : List ByteArray} {x : ByteArray} (h : x ∈ xs) : (x.size : Int) ≤ bulkS xs := by
  induction xs with
  | nil => cases h
  | cons y r ih =>
    simp only [bulkS]
    rcases List.mem_cons.1 h with rfl | h
    · have := bulkS_nonneg r; omega
    · have := ih h; omega

/-- Where a text stands first; -1 if it does not. -/
def idxS (xs : List ByteArray) (s : ByteArray) : Int := match xs.findIdx? (fun x => x.toList == s.toList) with | some i => (i : Int) | none => -1
theorem idxS_none {xs : List ByteArray} {s : ByteArray} (h : hasS xs s = false) : idxS xs s = -1 := by
  unfold idxS
  rw [List.findIdx?_eq_none_iff.2 (fun x hx => by unfold hasS at h; rw [List.any_eq_false] at h; simpa using h x hx)]
theorem idxS_hit {xs : List ByteArray} {s x : ByteArray} {k : Nat} (hx : xs[k]? = some x) (he : (x.toList == s.toList) = true) (hno : hasS (xs.take k) s = false) : idxS xs s = k := by
  unfold idxS
  obtain ⟨hk, rfl⟩ := List.getElem?_eq_some_iff.1 hx
  rw [(List.findIdx?_eq_some_iff_getElem).2 ⟨hk, he, fun j hj => ?_⟩]
  unfold hasS at hno
  rw [List.any_eq_false] at hno
  exact hno _ (by rw [List.mem_take_iff_getElem]; exact ⟨j, by omega, rfl⟩)

theorem l_szStringS (A : Option Addr) (n c : Nat) (L : Int) (xs : List ByteArray) (B : Nat) (w : World) (hr : Rd w B A n (xs.map Value.string)) (hm : n ≤ 9223372036854775807) (hs : ∀ x ∈ xs, x.size ≤ maxLen) (h0 : 0 ≤ L) (h1 : L ≤ 1048576) :
    Calls Tryz.prog 19 #[.slice A n c, .int .i64 L] w fun e w' => Sized (n + bulkS xs) L e ∧ w = w' := by
  by_cases hn : L < n
  · go_enter Tryz.func19, Tryz.ntmps19
    go_wp2
    go_ret
    exact ⟨⟨-1, rfl, .inl rfl⟩, rfl⟩
  go_enter Tryz.func19, Tryz.ntmps19
  go_wp2
  go_loop [1, 5] (fun l i => ∃ k : Nat, k ≤ n ∧ i = .int .i64 k ∧ l = .int .i64 (L - n - bulkS (xs.take k)) ∧ 0 ≤ L - n - bulkS (xs.take k)) (fun _ i => n - (intOf i).toNat)
  case atStart => exact ⟨0, by omega, rfl, by simp [bulkS], by simp [bulkS]; omega⟩
  case round =>
    obtain ⟨k, hk, rfl, rfl, h2⟩ := hrel
    have hnn := bulkS_nonneg (xs.take k)
    generalize ht : bulkS (xs.take k) = t at *
    have Ht := hide ht
    clear ht
    by_cases hlt : k < n
    · obtain ⟨b, off, x, hA, hb, hx, hc⟩ := hr.get hlt
      subst hA
      have hsz := hs x (List.mem_of_getElem? hx)
      unfold maxLen at hsz
      have hsn := bulkS_snoc (xs.take k) x
      rw [← take_snoc hx, Ht.out] at hsn
      have Hsn := hide hsn
      clear hsn hx
      by_cases hbig : L - n - t < x.size
      · go_wp2
        go_ret
        exact ⟨⟨-1, rfl, .inl rfl⟩, rfl⟩
      · go_wp2
        go_round
        case rel => exact ⟨k + 1, by omega, by go_num, by rw [Hsn.out]; go_num, by rw [Hsn.out]; omega⟩
        case measure => simp [intOf]; omega
    · go_wp2
      go_ret
      refine ⟨⟨_, rfl, .inr ⟨h2, ?_⟩⟩, rfl⟩
      have h := Ht.out
      rw [List.take_of_length_le (by have := hr.len; omega)] at h
      omega

/-- Cells of texts, the first k of them filled. -/
def partS (xs : List ByteArray) (n k : Nat) : List Value := (xs.take k).map Value.string ++ List.replicate (n - k) (.string ByteArray.empty)
theorem partS_len {xs : List ByteArray} {n k : Nat} (hl : xs.length = n) (hk : k ≤ n) : (partS xs n k).length = n := by simp [partS]; omega
theorem partS_zero (xs : List ByteArray) (n : Nat) : (partS xs n 0).toArray = madeCells #[.string ByteArray.empty] n := by
  apply Array.ext_getElem?
  intro i
  by_cases h : i < n
  · simp [partS, madeCells, h, Nat.mod_one]
  · simp [partS, madeCells, h]
theorem partS_at {xs : List ByteArray} {n k : Nat} (hl : xs.length = n) (hk : k < n) : (partS xs n k)[k]? = some (.string ByteArray.empty) := by
  have hlen : ((xs.take k).map Value.string).length = k := by simp; omega
  unfold partS
  generalize (xs.take k).map Value.string = l at hlen
  subst hlen
  rw [List.getElem?_append_right (Nat.le_refl _), Nat.sub_self, List.getElem?_replicate, if_pos (by omega)]
theorem partS_set {xs : List ByteArray} {n k : Nat} {x : ByteArray} (hl : xs.length = n) (hx : xs[k]? = some x) (hk : k < n) : (partS xs n k).toArray.setIfInBounds k (.string x) = (partS xs n (k + 1)).toArray := by
  have hlen : ((xs.take k).map Value.string).length = k := by simp; omega
  have e : n - k = (n - (k + 1)) + 1 := by omega
  unfold partS
  rw [take_snoc hx, List.map_append, e, List.replicate_succ]
  generalize (xs.take k).map Value.string = l at hlen
  clear hx
  subst hlen
  simp
theorem partS_all {xs : List ByteArray} {n : Nat} (hl : xs.length = n) : partS xs n n = xs.map Value.string := by
  unfold partS
  rw [List.take_of_length_le (by omega)]
  simp
theorem l_toStringS (A : Option Addr) (n c : Nat) (xs : List ByteArray) (B : Nat) (w : World) (hr : Rd w B A n (xs.map Value.string)) (hm : n ≤ 1048576) (hB : B ≤ w.heap.size) :
    Calls Tryz.prog 25 #[.slice A n c] w fun e w' => e = .returned (.slice (some ⟨w.heap.size, 0, none⟩) n n) ∧ w'.heap[w.heap.size]? = some (.cells (xs.map Value.string).toArray 9 (0, 0)) ∧ Below w.heap.size w w' := by
  have hmk := run_make_row' (P := Tryz.prog) 22 9 (.string ByteArray.empty) 16 Tryz.underlying22 (by kernel_rfl) rfl .i64 .i64 n (by omega) (by omega)
  go_enter Tryz.func25, Tryz.ntmps25
  go_wp2
  go_loopw [4] (fun i wr => ∃ k : Nat, k ≤ n ∧ i = .int .i64 k ∧ wr.heap[w.heap.size]? = some (.cells (partS xs n k).toArray 9 (0, 0)) ∧ Below w.heap.size w wr) (fun i _ => n - (intOf i).toNat)
  case atStart => exact ⟨0, by omega, rfl, by rw [partS_zero]; exact heap_alloc_new w _, (Below.refl _ _).alloc (Nat.le_refl _) _⟩
  case round =>
    obtain ⟨k, hk, rfl, hblk, hbel⟩ := hrel
    by_cases hlt : k < n
    · obtain ⟨b, off, x, hA, hb, hx, hc⟩ := hr.get hlt
      subst hA
      have hc' : wr.cell? ⟨b, off + k, none⟩ = some (.string x) := (hbel.cell (by show b < _; omega)).trans hc
      have hcell : wr.cell? ⟨w.heap.size, k, none⟩ = some (.string ByteArray.empty) := by rw [cell_of_row _ _ k _ _ _ hblk]; simpa using partS_at hr.len hlt
      have hfz := frozen_of_row wr w.heap.size k _ _ hblk
      have Hblk := hide hblk
      have Hx := hide hx
      clear hblk hx
      go_wp2
      go_roundw
      case rel => exact ⟨k + 1, by omega, by go_num, by rw [← partS_set hr.len Hx.out hlt]; exact heap_setCell_same wr w.heap.size k _ _ _ Hblk.out, hbel.setCell (by simp) _⟩
      case measure => simp [intOf]; omega
    · have hkn : k = n := by omega
      rw [hkn, partS_all hr.len] at hblk
      have Hblk := hide hblk
      clear hblk hkn
      go_wp2
      go_ret
      exact ⟨rfl, Hblk.out, hbel⟩

theorem l_eqStringS (A A' : Option Addr) (n n' c c' : Nat) (xs ys : List ByteArray) (B B' : Nat) (w : World) (hr : Rd w B A n (xs.map Value.string)) (hr' : Rd w B' A' n' (ys.map Value.string)) (hm : n ≤ 9223372036854775807) (hm' : n' ≤ 9223372036854775807) :
    Calls Tryz.prog 9 #[.slice A n c, .slice A' n' c'] w fun e w' => e = .returned (.bool (decide (xs = ys))) ∧ Below w.heap.size w w' := by
  by_cases hnn : n = n'
  · subst hnn
    go_enter Tryz.func9, Tryz.ntmps9
    go_wp2
    go_loopw [5] (fun i wr => ∃ k m : Nat, k ≤ n ∧ i = .int .i64 k ∧ Hid (xs.take k = ys.take k) ∧ wr = w.drewN m) (fun i _ => n - (intOf i).toNat)
    case atStart => exact ⟨0, 0, by omega, rfl, hide rfl, rfl⟩
    case round =>
      obtain ⟨k, m, hk, rfl, Hno, rfl⟩ := hrel
      by_cases hlt : k < n
      · obtain ⟨b, off, x, hA, hb, hx, hc⟩ := hr.get hlt
        obtain ⟨b', off', y, hA', hb', hy, hc'⟩ := hr'.get hlt
        subst hA hA'
        have Hx := hide hx
        have Hy := hide hy
        clear hx hy
        by_cases he : x = y
        · have he1 : (x.toList != y.toList) = false := by rw [he]; simp
          go_wp2
          go_quiet (fail)
          go_wp2
          exact ⟨⟨k + 1, _, by omega, by go_num, hide (by rw [take_snoc Hx.out, take_snoc Hy.out, Hno.out, he]), rfl⟩, by simp [intOf]; omega⟩
        · have he2 : (x.toList == y.toList) = false := by rw [bytes_beq]; simpa using he
          have he1 : (x.toList != y.toList) = true := by rw [bne_iff_ne]; intro h; exact he (by simpa [bytes_beq] using beq_iff_eq.2 h)
          have hxy : decide (xs = ys) = false := by
            rw [decide_eq_false_iff_not]
            rintro rfl
            have h1 := Hx.out
            rw [Hy.out] at h1
            injection h1 with h1
            exact he h1.symm
          have Hxy := hide hxy
          clear hxy
          go_wp2
          go_quiet (fail)
          go_wp2
          go_ret
          exact ⟨ret_bool Hxy.out.symm, below_drewN (below_drewN (Below.refl _ _) _) _⟩
      · have hxy : decide (xs = ys) = true := by
          rw [decide_eq_true_eq]
          have h := Hno.out
          rw [List.take_of_length_le (by have := hr.len; omega), List.take_of_length_le (by have := hr'.len; omega)] at h
          exact h
        have Hxy := hide hxy
        clear hxy
        go_wp2
        go_ret
        exact ⟨ret_bool Hxy.out.symm, below_drewN (Below.refl _ _) _⟩
  · have hne : ((n : Int) != (n' : Int)) = true := by rw [bne_iff_ne]; omega
    have hxy : decide (xs = ys) = false := by rw [decide_eq_false_iff_not]; rintro rfl; exact hnn (hr.len.symm.trans hr'.len)
    have Hxy := hide hxy
    clear hxy
    go_enter Tryz.func9, Tryz.ntmps9
    go_wp2
    go_ret
    exact ⟨ret_bool Hxy.out.symm, Below.refl _ _⟩
end Go.Proofs.YtjddmboaaebbiaaGreatDoor

/- Slices of things of several cells, read as lists, with the blocks that they own. Plain: no program. -/
namespace Go.Proofs.YtjddmboaaebbiaaGreatDoor
set_option linter.unusedSimpArgs false
set_option linter.unusedVariables false
set_option maxRecDepth 100000
open Go.RowKit

/-- How a thing lies: the world, the thing, its own cells, the blocks that it owns beyond them. -/
abbrev CR (α : Type) := World → α → List Value → List Nat → Prop
structure Good {α : Type} (n : Nat) (R : CR α) : Prop where
  len : ∀ {w x cs F}, R w x cs F → cs.length = n
  frame : ∀ {w w' x cs F}, R w x cs F → (∀ b ∈ F, w'.heap[b]? = w.heap[b]?) → w.heap.size ≤ w'.heap.size → R w' x cs F
  lt : ∀ {w x cs F}, R w x cs F → ∀ b ∈ F, b < w.heap.size

/-- The elements of a row, from an offset on. -/
def ElR {α : Type} (n : Nat) (R : CR α) (w : World) (b : Nat) : Nat → List α → List Nat → Prop
  | _, [], F => F = []
  | off, x :: r, F => ∃ cs F1 F2, F = F1 ++ F2 ∧ CellsAt w b off cs ∧ R w x cs F1 ∧ ElR n R w b (off + n) r F2

/-- A slice value that holds the list xs; F: the blocks that it owns. -/
def SlR {α : Type} (n : Nat) (R : CR α) (w : World) (xs : List α) (v : Value) (F : List Nat) : Prop :=
  ∃ A cap, v = .slice A xs.length cap ∧ xs.length ≤ cap ∧ cap ≤ maxLen ∧
    ((xs = [] ∧ F = []) ∨ ∃ b off F', A = some ⟨b, off, none⟩ ∧ b < w.heap.size ∧ F = b :: F' ∧ ElR n R w b off xs F')

section
variable {α : Type} {n : Nat} {R : CR α}
theorem ElR.frame (hR : Good n R) {w w' : World} {b : Nat} (hb : w'.heap[b]? = w.heap[b]?) (hz : w.heap.size ≤ w'.heap.size) : ∀ {xs : List α} {off : Nat} {F : List Nat}, ElR n R w b off xs F → (∀ k ∈ F, w'.heap[k]? = w.heap[k]?) → ElR n R w' b off xs F
  | [], _, _, h, _ => h
  | x :: r, off, F, h, hk => by
    obtain ⟨cs, F1, F2, rfl, h1, h2, h3⟩ := h
    exact ⟨cs, F1, F2, rfl, h1.frame hb, hR.frame h2 (fun k hk' => hk k (by simp [hk'])) hz, ElR.frame hR hb hz h3 (fun k hk' => hk k (by simp [hk']))⟩
theorem ElR.lt (hR : Good n R) {w : World} {b : Nat} : ∀ {xs : List α} {off : Nat} {F : List Nat}, ElR n R w b off xs F → ∀ k ∈ F, k < w.heap.size
  | [], _, _, h, k, hk => by
    rw [show (_ : List Nat) = [] from h] at hk
    cases hk
  | x :: r, off, F, h, k, hk => by
    obtain ⟨cs, F1, F2, rfl, h1, h2, h3⟩ := h
    rcases List.mem_append.1 hk with hk | hk
    · exact hR.lt h2 k hk
    · exact ElR.lt hR h3 k hk
theorem ElR.get (hR : Good n R) {w : World} {b : Nat} : ∀ {xs : List α} {off : Nat} {F : List Nat} {k : Nat} {x : α}, ElR n R w b off xs F → xs[k]? = some x →
    ∃ cs F1 Fk F2, F = F1 ++ (Fk ++ F2) ∧ CellsAt w b (off + k * n) cs ∧ R w x cs Fk ∧ ElR n R w b off (xs.take k) F1 ∧ ElR n R w b (off + (k + 1) * n) (xs.drop (k + 1)) F2
  | [], _, _, _, _, _, hk => by cases hk
  | y :: r, off, F, 0, x, h, hk => by
    obtain ⟨cs, F1, F2, rfl, h1, h2, h3⟩ := h
    simp at hk
    subst hk
    exact ⟨cs, [], F1, F2, rfl, by simpa using h1, h2, rfl, by simpa using h3⟩
  | y :: r, off, F, k + 1, x, h, hk => by
    obtain ⟨cs, F1, F2, rfl, h1, h2, h3⟩ := h
    obtain ⟨cs', G1, Gk, G2, rfl, g1, g2, g3, g4⟩ := ElR.get hR h3 (by simpa using hk)
    refine ⟨cs', F1 ++ G1, Gk, G2, by simp, ?_, g2, ⟨cs, F1, G1, rfl, h1, h2, g3⟩, ?_⟩
    · rw [show off + (k + 1) * n = off + n + k * n by rw [Nat.add_mul]; omega]; exact g1
    · rw [show off + (k + 1 + 1) * n = off + n + (k + 1) * n by rw [Nat.add_mul (k + 1)]; omega]; simpa using g4
theorem ElR.append {w : World} {b : Nat} : ∀ {xs : List α} {off : Nat} {F : List Nat} {ys : List α} {G : List Nat}, ElR n R w b off xs F → ElR n R w b (off + xs.length * n) ys G → ElR n R w b off (xs ++ ys) (F ++ G)
  | [], off, F, ys, G, h, g => by
    rw [show F = [] from h]
    simpa using g
  | x :: r, off, F, ys, G, h, g => by
    obtain ⟨cs, F1, F2, rfl, h1, h2, h3⟩ := h
    refine ⟨cs, F1, F2 ++ G, by simp, h1, h2, ElR.append h3 ?_⟩
    rw [List.length_cons, Nat.add_mul] at g
    rw [show off + n + r.length * n = off + (r.length * n + 1 * n) by omega]
    exact g
theorem ElR.one {w : World} {b off : Nat} {x : α} {cs : List Value} {F : List Nat} (h1 : CellsAt w b off cs) (h2 : R w x cs F) : ElR n R w b off [x] F := ⟨cs, F, [], by simp, h1, h2, rfl⟩
theorem ElR.snoc {w : World} {b off : Nat} {xs : List α} {x : α} {cs : List Value} {F G : List Nat} (h : ElR n R w b off xs F) (h1 : CellsAt w b (off + xs.length * n) cs) (h2 : R w x cs G) : ElR n R w b off (xs ++ [x]) (F ++ G) :=
  h.append (ElR.one h1 h2)

theorem SlR.frame (hR : Good n R) {w w' : World} {xs : List α} {v : Value} {F : List Nat} (h : SlR n R w xs v F) (hk : ∀ k ∈ F, w'.heap[k]? = w.heap[k]?) (hz : w.heap.size ≤ w'.heap.size) : SlR n R w' xs v F := by
  obtain ⟨A, cap, hv, hl, hm, h⟩ := h
  refine ⟨A, cap, hv, hl, hm, ?_⟩
  rcases h with h | ⟨b, off, F', hA, hb, rfl, he⟩
  · exact .inl h
  · exact .inr ⟨b, off, F', hA, by omega, rfl, ElR.frame hR (hk b (by simp)) hz he (fun k hk' => hk k (by simp [hk']))⟩
theorem SlR.lt (hR : Good n R) {w : World} {xs : List α} {v : Value} {F : List Nat} (h : SlR n R w xs v F) : ∀ k ∈ F, k < w.heap.size := by
  obtain ⟨A, cap, hv, hl, hm, h⟩ := h
  rcases h with ⟨_, rfl⟩ | ⟨b, off, F', hA, hb, rfl, he⟩
  · intro k hk; cases hk
  · intro k hk
    rcases List.mem_cons.1 hk with rfl | hk
    · exact hb
    · exact ElR.lt hR he k hk
/-- The value's form. -/
theorem SlR.form {w : World} {xs : List α} {v : Value} {F : List Nat} (h : SlR n R w xs v F) : ∃ A cap, v = .slice A xs.length cap ∧ xs.length ≤ cap ∧ cap ≤ maxLen := by
  obtain ⟨A, cap, hv, hl, hm, _⟩ := h
  exact ⟨A, cap, hv, hl, hm⟩
theorem SlR.bnd {w : World} {xs : List α} {A : Option Addr} {len cap : Nat} {F : List Nat} (h : SlR n R w xs (.slice A len cap) F) : len = xs.length ∧ xs.length ≤ cap ∧ cap ≤ maxLen := by
  obtain ⟨A', cap', hv, hl, hm⟩ := h.form
  injection hv with _ h2 h3
  subst h2 h3
  exact ⟨rfl, hl, hm⟩
/-- Element k, by its cells. -/
theorem SlR.get (hR : Good n R) {w : World} {xs : List α} {A : Option Addr} {l cap : Nat} {F : List Nat} {k : Nat} {x : α} (h : SlR n R w xs (.slice A l cap) F) (hk : xs[k]? = some x) :
    ∃ b off cs Fk, A = some ⟨b, off, none⟩ ∧ b < w.heap.size ∧ b ∈ F ∧ (∀ j ∈ Fk, j ∈ F) ∧ cs.length = n ∧ CellsAt w b (off + k * n) cs ∧ R w x cs Fk := by
  obtain ⟨A', cap', hv, hl, hm, h⟩ := h
  injection hv with hA _ _
  subst hA
  rcases h with ⟨rfl, _⟩ | ⟨b, off, F', hA, hb, rfl, he⟩
  · cases hk
  · obtain ⟨cs, F1, Fk, F2, rfl, h1, h2, _, _⟩ := ElR.get hR he hk
    exact ⟨b, off, cs, Fk, hA, hb, by simp, fun j hj => by simp [hj], hR.len h2, h1, h2⟩
end

theorem ElR.build {α : Type} {n : Nat} {R : CR α} {w : World} {b off : Nat} : ∀ len : Nat, (∀ i, i < len → ∃ x cs F, CellsAt w b (off + i * n) cs ∧ R w x cs F) → ∃ xs F, xs.length = len ∧ ElR n R w b off xs F
  | 0, _ => ⟨[], [], rfl, rfl⟩
  | len + 1, h => by
    obtain ⟨xs, F, hl, he⟩ := ElR.build len (fun i hi => h i (by omega))
    obtain ⟨x, cs, G, h1, h2⟩ := h len (by omega)
    exact ⟨xs ++ [x], F ++ G, by simp [hl], he.snoc (by rw [hl]; exact h1) h2⟩
theorem ElR.mono {α : Type} {n : Nat} {R R' : CR α} {w : World} {b : Nat} (hR : ∀ x cs F, R w x cs F → R' w x cs F) : ∀ {xs : List α} {off : Nat} {F : List Nat}, ElR n R w b off xs F → ElR n R' w b off xs F
  | [], _, _, h => h
  | x :: r, off, F, h => by
    obtain ⟨cs, F1, F2, rfl, h1, h2, h3⟩ := h
    exact ⟨cs, F1, F2, rfl, h1, hR _ _ _ h2, ElR.mono hR h3⟩
theorem SlR.mono {α : Type} {n : Nat} {R R' : CR α} {w : World} {xs : List α} {v : Value} {F : List Nat} (hR : ∀ x cs F, R w x cs F → R' w x cs F) (h : SlR n R w xs v F) : SlR n R' w xs v F := by
  obtain ⟨A, cap, hv, hl, hm, h⟩ := h
  refine ⟨A, cap, hv, hl, hm, ?_⟩
  rcases h with h | ⟨b, off, F', hA, hb, rfl, he⟩
  · exact .inl h
  · exact .inr ⟨b, off, F', hA, hb, rfl, he.mono hR⟩

section
variable {H : Type} {enc : TypeId × Value → H} {P : Program} {w : World} {base fuel : Nat} {sp : Nat → Bool} {held : Bool}
/-- A slice that came in, if each of its elements can be read. -/
theorem open_SlR {α : Type} {t e n : Nat} {cs : List Value} {x : DataW H × List MemPlace} (ht : P.underlying t = some (.slice e)) (hC : P.cellsOf e = n) (hn : 0 < n) (R : CR α) (h : DataW.trod enc P w base sp held fuel t cs = some x)
    (hel : ∀ m cs y, m < fuel → DataW.trod enc P w base sp held m e cs = some y → ∃ z F, R w z cs F) : ∃ xs v F, cs = [v] ∧ SlR n R w xs v F := by
  rcases DataW.trod_slice ht h with ⟨hcs, _⟩ | ⟨a, len, cap, elems, rest, m, hfu, hcs, _, hb, hl, hm, hlen, hi, _, _⟩
  · exact ⟨[], _, [], hcs, none, 0, rfl, Nat.le_refl _, by simp [maxLen], .inl ⟨rfl, rfl⟩⟩
  · rcases Nat.eq_zero_or_pos len with h0 | hpos
    · subst h0
      exact ⟨[], _, [], hcs, some a, cap, rfl, by simp, hm, .inl ⟨rfl, rfl⟩⟩
    · have hget : ∀ i, i < len → ∃ cs' z F, w.cells? base (a.add (i * n)) n = some cs' ∧ R w z cs' F := by
        intro i hil
        have h1 := hi i hil
        rw [List.getElem?_eq_getElem (by omega), hC] at h1
        obtain ⟨cs', hc, ht'⟩ := Option.bind_eq_some_iff.1 h1
        obtain ⟨z, F, hz⟩ := hel m cs' _ (by omega) ht'
        exact ⟨cs', z, F, hc, hz⟩
      obtain ⟨c0, _, _, hc0, _⟩ := hget 0 hpos
      obtain ⟨_, hl0, hat0⟩ := World.cells?_some hc0
      have hcell0 := hat0 0 hn
      rw [List.getElem?_eq_getElem (by omega)] at hcell0
      have hspot := cell_spot hcell0
      have hblt := cell_lt hcell0
      obtain ⟨b, off, spot⟩ := a
      simp [Addr.add] at hspot hblt
      subst hspot
      obtain ⟨xs, F, hxl, he⟩ := ElR.build (n := n) (R := R) (w := w) (b := b) (off := off) len (fun i hil => by
        obtain ⟨cs', z, F, hc, hz⟩ := hget i hil
        obtain ⟨_, hl', hat⟩ := World.cells?_some hc
        refine ⟨z, cs', F, fun j u hu => ?_, hz⟩
        have hj : j < n := by have := (List.getElem?_eq_some_iff.1 hu).1; omega
        have h2 := hat j hj
        rw [hu] at h2
        have e : ((⟨b, off, none⟩ : Addr).add (i * n)).add j = ⟨b, off + i * n + j, none⟩ := by
          unfold Addr.add
          by_cases h1 : i * n = 0 <;> by_cases h3 : j = 0 <;> simp [h1, h3]
        rw [e] at h2
        exact h2)
      refine ⟨xs, _, b :: F, hcs, some ⟨b, off, none⟩, cap, by rw [hxl], by omega, hm, .inr ⟨b, off, F, rfl, hblt, rfl, he⟩⟩
end

/-! ### Sums over lists -/
def sumBy {α : Type} (f : α → Int) : List α → Int
  | [] => 0
  | x :: r => f x + sumBy f r
theorem sumBy_append {α : Type} (f : α → Int) (xs ys : List α) : sumBy f (xs ++ ys) = sumBy f xs + sumBy f ys := by
  induction xs with
  | nil => simp [sumBy]
  | cons x r ih => simp only [List.cons_append, sumBy, ih]; omega
theorem sumBy_snoc {α : Type} (f : α → Int) (xs : List α) (x : α) : sumBy f (xs ++ [x]) = sumBy f xs + f x := by rw [sumBy_append]; simp [sumBy]
theorem sumBy_nonneg {α : Type} {f : α → Int} (hf : ∀ x, 0 ≤ f x) : ∀ xs : List α, 0 ≤ sumBy f xs
  | [] => Int.le_refl _
  | x :: r => by have := sumBy_nonneg hf r; have := hf x; simp only [sumBy]; omega
theorem sumBy_take_succ {α : Type} {f : α → Int} {xs : List α} {k : Nat} {x : α} (hx : xs[k]? = some x) : sumBy f (xs.take (k + 1)) = sumBy f (xs.take k) + f x := by rw [take_snoc hx, sumBy_snoc]
theorem sumBy_take_le {α : Type} {f : α → Int} (hf : ∀ x, 0 ≤ f x) (xs : List α) (k : Nat) : sumBy f (xs.take k) ≤ sumBy f xs := by
  have h := sumBy_append f (xs.take k) (xs.drop k)
  rw [List.take_append_drop] at h
  have := sumBy_nonneg hf (xs.drop k)
  omega
theorem sumBy_mem {α : Type} {f : α → Int} (hf : ∀ x, 0 ≤ f x) {xs : List α} {x : α} (h : x ∈ xs) : f x ≤ sumBy f xs := by
  induction xs with
  | nil => cases h
  | cons y r ih =>
    simp only [sumBy]
    rcases List.mem_cons.1 h with rfl | h
    · have := sumBy_nonneg hf r; omega
    · have := ih h; have := hf y; omega

theorem Good.heap {α : Type} {n : Nat} {R : CR α} (hR : Good n R) {w w' : World} {x : α} {cs : List Value} {F : List Nat} (h : R w x cs F) (he : w'.heap = w.heap) : R w' x cs F :=
  hR.frame h (fun k _ => by rw [he]) (by rw [he]; exact Nat.le_refl _)
theorem SlR.heap {α : Type} {n : Nat} {R : CR α} (hR : Good n R) {w w' : World} {xs : List α} {v : Value} {F : List Nat} (h : SlR n R w xs v F) (he : w'.heap = w.heap) : SlR n R w' xs v F :=
  h.frame hR (fun k _ => by rw [he]) (by rw [he]; exact Nat.le_refl _)
/-- A thing below a block number stands where it stood. -/
theorem Good.below {α : Type} {n : Nat} {R : CR α} (hR : Good n R) {w w' : World} {x : α} {cs : List Value} {F : List Nat} {B : Nat} (h : R w x cs F) (hb : Below B w w') (hF : ∀ k ∈ F, k < B) : R w' x cs F :=
  hR.frame h (fun k hk => hb.block k (hF k hk)) hb.size
theorem SlR.below {α : Type} {n : Nat} {R : CR α} (hR : Good n R) {w w' : World} {xs : List α} {v : Value} {F : List Nat} {B : Nat} (h : SlR n R w xs v F) (hb : Below B w w') (hF : ∀ k ∈ F, k < B) : SlR n R w' xs v F :=
  h.frame hR (fun k hk => hb.block k (hF k hk)) hb.size

/-- 'make([]T, n)', T of several cells. -/
theorem run_make_rowN' {P : Program} (t e : TypeId) (z : Value) (size bytes : Nat) (ht : P.underlying t = some (.slice e)) (hinfo : (P.info? e).map (fun i => (i.zero, i.size, i.bytes)) = some (some z, size, bytes))
    (kl kc : IntKind) (n : Nat) (hbytes : bytes * n ≤ 281474976710656) (h63 : n ≤ 9223372036854775807) (w : World) :
    (Instr.makeSlice t (.int kl (n : Int)) (.int kc (n : Int))).run P w = .ok (.slice (some ⟨w.heap.size, 0, none⟩) n n) (w.alloc (.cells (madeCells z.cells (n * size)) e)) := by
  obtain ⟨i, hi, hzz⟩ := Option.map_eq_some_iff.1 hinfo
  simp only [Prod.mk.injEq] at hzz
  obtain ⟨hz, hs, hb⟩ := hzz
  have hb' : (i.bytes : Int) * (n : Int) ≤ 281474976710656 := by
    have h : ((i.bytes * n : Nat) : Int) ≤ 281474976710656 := by rw [hb]; omega
    rwa [Int.natCast_mul] at h
  have hr := run_make (P := P) w t e i z ht hi hz kl kc n n (by omega) (Int.le_refl _) hb' (by omega)
  simp only [Int.toNat_natCast, hs] at hr
  exact hr

/-- Seven cells of a block of the call's own: there, and not frozen. -/
theorem cells7_of {w : World} {b o : Nat} {cs : Array Value} {t : TypeId} (h : w.heap[b]? = some (.cells cs t (0, 0))) (ho : o + 7 ≤ cs.size) :
    ∃ v0 v1 v2 v3 v4 v5 v6, (w.cell? ⟨b, o, none⟩ = some v0 ∧ w.cell? ⟨b, o + 1, none⟩ = some v1 ∧ w.cell? ⟨b, o + 2, none⟩ = some v2 ∧ w.cell? ⟨b, o + 3, none⟩ = some v3 ∧ w.cell? ⟨b, o + 4, none⟩ = some v4 ∧
      w.cell? ⟨b, o + 5, none⟩ = some v5 ∧ w.cell? ⟨b, o + 6, none⟩ = some v6) ∧
      (w.frozen? ⟨b, o, none⟩ = false ∧ w.frozen? ⟨b, o + 1, none⟩ = false ∧ w.frozen? ⟨b, o + 2, none⟩ = false ∧ w.frozen? ⟨b, o + 3, none⟩ = false ∧ w.frozen? ⟨b, o + 4, none⟩ = false ∧ w.frozen? ⟨b, o + 5, none⟩ = false ∧ w.frozen? ⟨b, o + 6, none⟩ = false) := by
  have hc : ∀ i, i < 7 → w.cell? ⟨b, o + i, none⟩ = some (cs.getD (o + i) undef) := fun i hi => by
    rw [cell_of_row _ _ _ _ _ _ h]
    have : o + i < cs.size := by omega
    simp [Array.getD, this]
  exact ⟨_, _, _, _, _, _, _, ⟨hc 0 (by omega), hc 1 (by omega), hc 2 (by omega), hc 3 (by omega), hc 4 (by omega), hc 5 (by omega), hc 6 (by omega)⟩,
    frozen_of_row _ _ _ _ _ h, frozen_of_row _ _ _ _ _ h, frozen_of_row _ _ _ _ _ h, frozen_of_row _ _ _ _ _ h, frozen_of_row _ _ _ _ _ h, frozen_of_row _ _ _ _ _ h, frozen_of_row _ _ _ _ _ h⟩

/-! ### A struct stored into a row -/
def putCells (w : World) (b : Nat) : Nat → List Value → World
  | _, [] => w
  | o, v :: r => putCells (w.setCell ⟨b, o, none⟩ v) b (o + 1) r
structure Put (w : World) (b o : Nat) (vs : List Value) (cs : Array Value) (t : TypeId) (w' : World) : Prop where
  blk : ∃ cs', w'.heap[b]? = some (.cells cs' t (0, 0)) ∧ cs'.size = cs.size ∧ (∀ i, i < o ∨ o + vs.length ≤ i → cs'[i]? = cs[i]?) ∧ (∀ j u, vs[j]? = some u → cs'[o + j]? = some u)
  far : ∀ k, k ≠ b → w'.heap[k]? = w.heap[k]?
  size : w'.heap.size = w.heap.size
  os : w'.os = w.os
  tape : w'.tape = w.tape
  output : w'.output = w.output
theorem put_spec {b : Nat} {t : TypeId} : ∀ (vs : List Value) (o : Nat) (w : World) (cs : Array Value), w.heap[b]? = some (.cells cs t (0, 0)) → o + vs.length ≤ cs.size → Put w b o vs cs t (putCells w b o vs)
  | [], o, w, cs, h, _ => ⟨⟨cs, h, rfl, fun _ _ => rfl, fun j u hu => by cases hu⟩, fun _ _ => rfl, rfl, rfl, rfl, rfl⟩
  | v :: r, o, w, cs, h, hz => by
    have h1 : (w.setCell ⟨b, o, none⟩ v).heap[b]? = some (.cells (cs.setIfInBounds o v) t (0, 0)) := heap_setCell_same w b o cs t v h
    rw [List.length_cons] at hz
    obtain ⟨⟨cs', hb, hs, hout, hin⟩, hf, hsz, h2, h3, h4⟩ := put_spec r (o + 1) (w.setCell ⟨b, o, none⟩ v) _ h1 (by simp; omega)
    refine ⟨⟨cs', hb, by simpa using hs, fun i hi => ?_, fun j u hu => ?_⟩, fun k hk => (hf k hk).trans (heap_setCell_other w _ k v (by simpa using hk)), hsz.trans (by simp [World.setCell]), h2, h3, h4⟩
    · rw [List.length_cons] at hi
      rw [hout i (by omega), Array.getElem?_setIfInBounds]
      rw [if_neg (by omega)]
    · cases j with
      | zero =>
        simp at hu
        subst hu
        rw [hout (o + 0) (by omega), Array.getElem?_setIfInBounds]
        simp
        omega
      | succ j =>
        have := hin j u (by simpa using hu)
        rw [show o + (j + 1) = o + 1 + j by omega]
        exact this
theorem Put.cellsAt {w w' : World} {b o : Nat} {vs : List Value} {cs : Array Value} {t : TypeId} (h : Put w b o vs cs t w') : CellsAt w' b o vs := fun j u hu => by
  obtain ⟨cs', hb, _, _, hin⟩ := h.blk
  rw [cell_of_row _ _ _ _ _ _ hb]
  exact hin j u hu
theorem Put.keeps {w w' : World} {b o : Nat} {vs : List Value} {cs : Array Value} {t : TypeId} (h : Put w b o vs cs t w') (hb0 : w.heap[b]? = some (.cells cs t (0, 0))) {o' : Nat} {us : List Value} (hu : CellsAt w b o' us) (hd : o' + us.length ≤ o ∨ o + vs.length ≤ o') : CellsAt w' b o' us := fun j u hj => by
  obtain ⟨cs', hb, _, hout, _⟩ := h.blk
  have h1 := hu j u hj
  rw [cell_of_row _ _ _ _ _ _ hb0] at h1
  rw [cell_of_row _ _ _ _ _ _ hb, hout (o' + j) (by have := (List.getElem?_eq_some_iff.1 hj).1; omega)]
  exact h1
theorem Put.below {w w' : World} {b o : Nat} {vs : List Value} {cs : Array Value} {t : TypeId} (h : Put w b o vs cs t w') {B : Nat} (hB : B ≤ b) : Below B w w' :=
  ⟨h.os, h.tape, h.output, by rw [h.size]; exact Nat.le_refl _, fun k hk => h.far k (by omega)⟩
/-- Elements that lie ahead of a stored one. -/
theorem ElR.put {α : Type} {n : Nat} {R : CR α} (hR : Good n R) {w w' : World} {b o : Nat} {vs : List Value} {cs : Array Value} {t : TypeId} (h : Put w b o vs cs t w') (hb0 : w.heap[b]? = some (.cells cs t (0, 0))) :
    ∀ {xs : List α} {off : Nat} {F : List Nat}, ElR n R w b off xs F → off + xs.length * n ≤ o ∨ o + vs.length ≤ off → b ∉ F → ElR n R w' b off xs F
  | [], _, _, hE, _, _ => hE
  | x :: r, off, F, hE, hd, hF => by
    obtain ⟨cs1, F1, F2, rfl, h1, h2, h3⟩ := hE
    simp only [List.mem_append, not_or] at hF
    rw [List.length_cons, Nat.add_mul] at hd
    have hl := hR.len h2
    exact ⟨cs1, F1, F2, rfl, h.keeps hb0 h1 (by omega), hR.frame h2 (fun k hk => h.far k (fun e => hF.1 (e ▸ hk))) (by rw [h.size]; exact Nat.le_refl _), ElR.put hR h hb0 h3 (by omega) hF.2⟩
end Go.Proofs.YtjddmboaaebbiaaGreatDoor

/- What the walks of the exact laws share: boxes of parameters, cells that every later world keeps. Plain: no program. -/
namespace Go.Proofs.YtjddmboaaebbiaaGreatDoor
set_option linter.unusedSimpArgs false
set_option linter.unusedVariables false
set_option maxRecDepth 100000
open Go.RowKit

theorem below_step {n : Nat} {w W w' : World} (h : Below n w W) (hn : n ≤ w.heap.size) (hb : Below W.heap.size W w') : Below n w w' := h.trans (hb.mono (Nat.le_trans hn h.size))
theorem below_alloc {n : Nat} {w W : World} (hn : n ≤ w.heap.size) (o : Obj) (h : Below n w W) : Below n w (W.alloc o) := h.alloc (Nat.le_trans hn h.size) o
theorem boxes1 (w : World) (a : List Value) (ta : TypeId) :
    CellsAt (w.alloc (.cells a.toArray ta)) w.heap.size 0 a ∧ (w.alloc (.cells a.toArray ta)).heap.size = w.heap.size + 1 ∧ Below w.heap.size w (w.alloc (.cells a.toArray ta)) :=
  ⟨CellsAt.new w a ta, World.size_alloc _ _, (Below.refl _ _).alloc (Nat.le_refl _) _⟩
theorem boxes2 (w : World) (a b : List Value) (ta tb : TypeId) :
    CellsAt ((w.alloc (.cells a.toArray ta)).alloc (.cells b.toArray tb)) w.heap.size 0 a ∧ CellsAt ((w.alloc (.cells a.toArray ta)).alloc (.cells b.toArray tb)) (w.heap.size + 1) 0 b ∧
      ((w.alloc (.cells a.toArray ta)).alloc (.cells b.toArray tb)).heap.size = w.heap.size + 2 ∧ Below w.heap.size w ((w.alloc (.cells a.toArray ta)).alloc (.cells b.toArray tb)) := by
  obtain ⟨h1, h2, h3⟩ := boxes1 w a ta
  obtain ⟨g1, g2, g3⟩ := boxes1 (w.alloc (.cells a.toArray ta)) b tb
  rw [h2] at g1 g2 g3
  exact ⟨h1.below g3 (by omega), g1, g2, h3.trans (g3.mono (by omega))⟩
theorem boxes3 (w : World) (a b c : List Value) (ta tb tc : TypeId) :
    CellsAt (((w.alloc (.cells a.toArray ta)).alloc (.cells b.toArray tb)).alloc (.cells c.toArray tc)) w.heap.size 0 a ∧ CellsAt (((w.alloc (.cells a.toArray ta)).alloc (.cells b.toArray tb)).alloc (.cells c.toArray tc)) (w.heap.size + 1) 0 b ∧
      CellsAt (((w.alloc (.cells a.toArray ta)).alloc (.cells b.toArray tb)).alloc (.cells c.toArray tc)) (w.heap.size + 2) 0 c ∧
      (((w.alloc (.cells a.toArray ta)).alloc (.cells b.toArray tb)).alloc (.cells c.toArray tc)).heap.size = w.heap.size + 3 ∧ Below w.heap.size w (((w.alloc (.cells a.toArray ta)).alloc (.cells b.toArray tb)).alloc (.cells c.toArray tc)) := by
  obtain ⟨h1, h2, h3, h4⟩ := boxes2 w a b ta tb
  obtain ⟨g1, g2, g3⟩ := boxes1 ((w.alloc (.cells a.toArray ta)).alloc (.cells b.toArray tb)) c tc
  rw [h3] at g1 g2 g3
  exact ⟨h1.below g3 (by omega), h2.below g3 (by omega), g1, g2, h4.trans (g3.mono (by omega))⟩
/-- Behind a box of one's own: what is known of the world ahead of it is known of every later one. -/
theorem below_box {n : Nat} {w W : World} {o : Obj} (h : Below n w W) (hn : n ≤ w.heap.size) : ∀ V, Below (W.heap.size + 1) (W.alloc o) V → Below n w V := fun V hV =>
  below_step h hn (((Below.refl _ _).alloc (Nat.le_refl _) _).trans (hV.mono (by omega)))
theorem below_of_box {w V : World} {o : Obj} (h : Below (w.heap.size + 1) (w.alloc o) V) : Below w.heap.size w V := ((Below.refl _ _).alloc (Nat.le_refl _) _).trans (h.mono (by omega))
theorem cell_rule {n b : Nat} {w : World} {cs : List Value} (hc : CellsAt w b 0 cs) (hb : b < n) (i : Nat) {v : Value} (hi : cs[i]? = some v) : ∀ W : World, Below n w W → W.cell? ⟨b, i, none⟩ = some v := fun W h => by
  have := hc.below h hb i v hi
  rwa [Nat.zero_add] at this
/-- Blocks of the call's own: each once, from B on, none frozen. -/
structure Fresh (B : Nat) (w : World) (F : List Nat) : Prop where
  nodup : F.Nodup
  from_ : ∀ b ∈ F, B ≤ b
  cells : ∀ b ∈ F, ∃ cs t, w.heap[b]? = some (.cells cs t (0, 0))
theorem Fresh.nil (B : Nat) (w : World) : Fresh B w [] := ⟨by simp, by simp, by simp⟩
theorem Fresh.lt {B : Nat} {w : World} {F : List Nat} (h : Fresh B w F) : ∀ b ∈ F, b < w.heap.size := fun b hb => by
  obtain ⟨cs, t, hc⟩ := h.cells b hb
  exact (Array.getElem?_eq_some_iff.1 hc).1
theorem Fresh.keep {B : Nat} {w w' : World} {F : List Nat} (h : Fresh B w F) (hk : ∀ b ∈ F, w'.heap[b]? = w.heap[b]?) : Fresh B w' F :=
  ⟨h.nodup, h.from_, fun b hb => by rw [hk b hb]; exact h.cells b hb⟩
theorem Fresh.mono {B C : Nat} {w : World} {F : List Nat} (h : Fresh B w F) (hC : C ≤ B) : Fresh C w F := ⟨h.nodup, fun b hb => Nat.le_trans hC (h.from_ b hb), h.cells⟩
theorem Fresh.append {B C : Nat} {w : World} {F G : List Nat} (h : Fresh B w F) (g : Fresh C w G) (hF : ∀ b ∈ F, b < C) (hBC : B ≤ C) : Fresh B w (F ++ G) :=
  ⟨List.nodup_append.2 ⟨h.nodup, g.nodup, fun a ha b hb e => by have := hF a ha; have := g.from_ b hb; omega⟩,
   fun b hb => by rcases List.mem_append.1 hb with hb | hb; exact h.from_ b hb; have := g.from_ b hb; omega,
   fun b hb => by rcases List.mem_append.1 hb with hb | hb; exact h.cells b hb; exact g.cells b hb⟩
/-- One argument more has been copied into its row. -/
theorem copy_step {α : Type} {n : Nat} {R : CR α} (hR : Good n R) {w wr w2 W : World} {l : List α} {j : Nat} {x : α} {F' F2 : List Nat} {vs : List Value} {cs : Array Value} {t : TypeId} (hx : l[j]? = some x)
    (hel : ElR n R wr w.heap.size 0 (l.take j) F') (hfr : Fresh (w.heap.size + 1) wr F') (hcs : wr.heap[w.heap.size]? = some (.cells cs t (0, 0))) (hcz : cs.size = l.length * n) (hb : Below w.heap.size w wr)
    (hb2 : Below wr.heap.size wr w2) (hR2 : R w2 x vs F2) (hf2 : Fresh wr.heap.size w2 F2) (hW : W = putCells w2 w.heap.size (j * n) vs) :
    ElR n R W w.heap.size 0 (l.take (j + 1)) (F' ++ F2) ∧ Fresh (w.heap.size + 1) W (F' ++ F2) ∧ (∃ cs, W.heap[w.heap.size]? = some (.cells cs t (0, 0)) ∧ cs.size = l.length * n) ∧ Below w.heap.size w W := by
  subst hW
  have hlt := blk_lt hcs
  have hcs2 : w2.heap[w.heap.size]? = some (.cells cs t (0, 0)) := blk_below hcs hb2 hlt
  have hjl : j < l.length := (List.getElem?_eq_some_iff.1 hx).1
  have hvl := hR.len hR2
  have hmul : j * n + n ≤ l.length * n := by rw [← Nat.succ_mul]; exact Nat.mul_le_mul_right n hjl
  have hP := put_spec vs (j * n) w2 cs hcs2 (by omega)
  have hF' := hfr.lt
  have hbF' : w.heap.size ∉ F' := fun h => by have := hfr.from_ _ h; omega
  have hbF2 : w.heap.size ∉ F2 := fun h => by have := hf2.from_ _ h; omega
  have hel2 : ElR n R w2 w.heap.size 0 (l.take j) F' := ElR.frame hR (hb2.block _ hlt) hb2.size hel (fun k hk => hb2.block k (hF' k hk))
  have htl : (l.take j).length = j := by simp; omega
  refine ⟨?_, ?_, ?_, ?_⟩
  · rw [take_snoc hx]
    refine (ElR.put hR hP hcs2 hel2 (.inl (by rw [htl]; omega)) hbF').snoc (cs := vs) ?_ (hR.frame hR2 (fun k hk => hP.far k (fun e => hbF2 (e ▸ hk))) (by rw [hP.size]; exact Nat.le_refl _))
    rw [htl, Nat.zero_add]
    exact hP.cellsAt
  · have h1 : Fresh (w.heap.size + 1) (putCells w2 w.heap.size (j * n) vs) F' := hfr.keep (fun b hb' => (hP.far b (fun e => hbF' (e ▸ hb'))).trans (hb2.block b (hF' b hb')))
    have h2 : Fresh wr.heap.size (putCells w2 w.heap.size (j * n) vs) F2 := hf2.keep (fun b hb' => hP.far b (fun e => hbF2 (e ▸ hb')))
    exact h1.append h2 hF' (by omega)
  · obtain ⟨cs', h1, h2, _⟩ := hP.blk
    exact ⟨cs', h1, by omega⟩
  · exact hb.trans ((hb2.mono hb.size).trans (hP.below (Nat.le_refl _)))
/-- All arguments have been copied. -/
theorem copy_done {α : Type} {n : Nat} {R : CR α} {w wr : World} {l : List α} {F' : List Nat} {cs : Array Value} {t : TypeId} (hl : l.length ≤ maxLen) (hel : ElR n R wr w.heap.size 0 l F') (hfr : Fresh (w.heap.size + 1) wr F') (hcs : wr.heap[w.heap.size]? = some (.cells cs t (0, 0))) :
    ∃ F, SlR n R wr l (.slice (some ⟨w.heap.size, 0, none⟩) l.length l.length) F ∧ Fresh w.heap.size wr F := by
  refine ⟨if l = [] then [] else w.heap.size :: F', ⟨some ⟨w.heap.size, 0, none⟩, l.length, rfl, Nat.le_refl _, hl, ?_⟩, ?_⟩
  · by_cases h : l = []
    · rw [if_pos h]; exact .inl ⟨h, rfl⟩
    · rw [if_neg h]; exact .inr ⟨_, _, F', rfl, blk_lt hcs, rfl, hel⟩
  · by_cases h : l = []
    · rw [if_pos h]; exact Fresh.nil _ _
    · rw [if_neg h]
      refine ⟨List.nodup_cons.2 ⟨fun hm => by have := hfr.from_ _ hm; omega, hfr.nodup⟩, fun b hb => ?_, fun b hb => ?_⟩
      · rcases List.mem_cons.1 hb with rfl | hb
        · exact Nat.le_refl _
        · have := hfr.from_ b hb; omega
      · rcases List.mem_cons.1 hb with rfl | hb
        · exact ⟨cs, t, hcs⟩
        · exact hfr.cells b hb
theorem cell_at {W : World} {b i : Nat} {cs : Array Value} {t : TypeId} (h : W.heap[b]? = some (.cells cs t (0, 0))) (hi : i < cs.size) : W.cell? ⟨b, i, none⟩ = some (cs.getD i undef) := by
  rw [cell_of_row _ _ _ _ _ _ h]
  simp [Array.getD, hi]
/-- What is new from block B on stays, old blocks of one's own may turn. -/
structure Later (B : Nat) (W W' : World) : Prop where
  size : W.heap.size ≤ W'.heap.size
  block : ∀ k, B ≤ k → k < W.heap.size → W'.heap[k]? = W.heap[k]?
theorem Later.refl (B : Nat) (W : World) : Later B W W := ⟨Nat.le_refl _, fun _ _ _ => rfl⟩
theorem Later.trans {B : Nat} {a b c : World} (h : Later B a b) (g : Later B b c) : Later B a c :=
  ⟨Nat.le_trans h.size g.size, fun k hk hl => (g.block k hk (Nat.lt_of_lt_of_le hl h.size)).trans (h.block k hk hl)⟩
theorem Later.of_below {B : Nat} {W W' : World} (h : Below W.heap.size W W') : Later B W W' := ⟨h.size, fun k _ hl => h.block k hl⟩
theorem Later.of_put {B b o : Nat} {vs : List Value} {cs : Array Value} {t : TypeId} {W W' : World} (h : Put W b o vs cs t W') (hb : b < B) : Later B W W' :=
  ⟨by rw [h.size]; exact Nat.le_refl _, fun k hk _ => h.far k (by omega)⟩
theorem Fresh.below {C : Nat} {w w' : World} {F : List Nat} (h : Fresh C w F) (hb : Below w.heap.size w w') : Fresh C w' F := h.keep fun b hb' => hb.block b (h.lt b hb')
theorem Fresh.later {B C : Nat} {W W' : World} {F : List Nat} (h : Fresh C W F) (hl : Later B W W') (hB : B ≤ C) : Fresh C W' F :=
  h.keep fun b hb => hl.block b (Nat.le_trans hB (h.from_ b hb)) (h.lt b hb)
theorem Good.later {α : Type} {n B C : Nat} {R : CR α} (hR : Good n R) {W W' : World} {x : α} {cs : List Value} {F : List Nat} (h : R W x cs F) (hf : Fresh C W F) (hl : Later B W W') (hB : B ≤ C) : R W' x cs F :=
  hR.frame h (fun b hb => hl.block b (Nat.le_trans hB (hf.from_ b hb)) (hf.lt b hb)) hl.size
theorem SlR.later {α : Type} {n B C : Nat} {R : CR α} (hR : Good n R) {W W' : World} {xs : List α} {v : Value} {F : List Nat} (h : SlR n R W xs v F) (hf : Fresh C W F) (hl : Later B W W') (hB : B ≤ C) : SlR n R W' xs v F :=
  h.frame hR (fun b hb => hl.block b (Nat.le_trans hB (hf.from_ b hb)) (hf.lt b hb)) hl.size
/-- Cells stored one by one into an array that is known. -/
def setMany (cs : Array Value) : Nat → List Value → Array Value
  | _, [] => cs
  | o, v :: r => setMany (cs.setIfInBounds o v) (o + 1) r
theorem put_blk {b : Nat} {t : TypeId} : ∀ (vs : List Value) (o : Nat) (w : World) (cs : Array Value), w.heap[b]? = some (.cells cs t (0, 0)) → (putCells w b o vs).heap[b]? = some (.cells (setMany cs o vs) t (0, 0))
  | [], _, _, _, h => h
  | v :: r, o, w, cs, h => put_blk r (o + 1) (w.setCell ⟨b, o, none⟩ v) _ (heap_setCell_same w b o cs t v h)
theorem SlR.one {α : Type} {n : Nat} {R : CR α} {w : World} {xs : List α} {v : Value} {F : List Nat} (h : SlR n R w xs v F) : v.oneCell' = true := by
  obtain ⟨A, cap, rfl, _⟩ := h.form
  rfl
end Go.Proofs.YtjddmboaaebbiaaGreatDoor

/- Slices of texts, told as slices of things: sizes, copies, comparisons. Conditions: a size is asked with at most 2^20; a copy is asked of at most 2^20 texts. -/
namespace Go.Proofs.YtjddmboaaebbiaaGreatDoor
set_option linter.unusedSimpArgs false
set_option linter.unusedVariables false
set_option maxRecDepth 100000
open Go.RowKit Go.WideShapes
set_option linter.unusedVariables false

def StrR (_D : Nat) : CR ByteArray := fun _ x cs F => cs = [.string x] ∧ x.size ≤ maxLen ∧ F = []
theorem StrR.good (D : Nat) : Good 1 (StrR D) where
  len := fun {w x cs F} h => by
    obtain ⟨rfl, _, _⟩ := h
    rfl
  frame := fun {w w' x cs F} h he hz => h
  lt := fun {w x cs F} h b hb => by
    obtain ⟨_, _, rfl⟩ := h
    cases hb
theorem StrR.up {D : Nat} {w : World} {x : ByteArray} {cs : List Value} {F : List Nat} (h : StrR D w x cs F) (D' : Nat) (hd : D ≤ D') : StrR D' w x cs F := h
theorem StrR.one {D : Nat} {w : World} {x : ByteArray} {cs : List Value} {F : List Nat} (h : StrR D w x cs F) : ∀ v ∈ cs, v.oneCell' = true := by
  obtain ⟨rfl, _, _⟩ := h
  intro v hv
  obtain rfl := List.mem_singleton.1 hv
  rfl
theorem cells_Str {H : Type} {enc : TypeId × Value → H} {w : World} {base : Nat} {sp : Nat → Bool} {held : Bool} (fuel : Nat) {cs : List Value} {x : DataW H × List MemPlace}
    (h : DataW.trod enc Tryz.prog w base sp held fuel 9 cs = some x) : ∃ y F, StrR fuel w y cs F := by
  obtain ⟨z, hz, _, hw⟩ := DataW.trod_string Tryz.underlying9 h
  exact ⟨z, [], hz, hw, rfl⟩
theorem open_StrL {H : Type} {enc : TypeId × Value → H} {w : World} {C base : Nat} {sp : Nat → Bool} {held : Bool} {v : Value} {d : DataW H} {p : List MemPlace} (hv : Value.okWide Tryz.prog w .any C 22 v)
    (h : DataW.Trod enc Tryz.prog w base sp held 22 v d p) : ∃ (D : Nat) (xs : List ByteArray) (F : List Nat), SlR 1 (StrR D) w xs v F := by
  obtain ⟨a0, len, cap, rfl⟩ := okWide_slice Tryz.underlying22 hv
  obtain ⟨fuel, hf⟩ := h
  obtain ⟨xs, v, F, hcs, hs⟩ := open_SlR (n := 1) Tryz.underlying22 (by kernel_rfl) (by omega) (StrR fuel) hf (fun m cs y hm hy => cells_Str m hy)
  simp [Value.cells] at hcs
  subst hcs
  exact ⟨fuel, xs, F, hs⟩
theorem ElR.strs {D : Nat} {w : World} {b : Nat} : ∀ {xs : List ByteArray} {off : Nat} {F : List Nat}, ElR 1 (StrR D) w b off xs F → F = [] ∧ (∀ x ∈ xs, x.size ≤ maxLen) ∧ ∀ j u, (xs.map Value.string)[j]? = some u → w.cell? ⟨b, off + j, none⟩ = some u
  | [], _, _, h => ⟨h, by simp, fun j u hu => by simp at hu⟩
  | x :: r, off, F, h => by
    obtain ⟨cs, F1, F2, rfl, h1, ⟨rfl, hx, rfl⟩, h3⟩ := h
    obtain ⟨rfl, g1, g2⟩ := ElR.strs h3
    refine ⟨rfl, fun y hy => ?_, fun j u hu => ?_⟩
    · rcases List.mem_cons.1 hy with rfl | hy
      · exact hx
      · exact g1 y hy
    · cases j with
      | zero => simp at hu; subst hu; exact h1 0 _ rfl
      | succ j => rw [show off + (j + 1) = off + 1 + j by omega]; exact g2 j u (by simpa using hu)
theorem ElR.of_strs {D : Nat} {w : World} {b : Nat} : ∀ {xs : List ByteArray} {off : Nat}, (∀ x ∈ xs, x.size ≤ maxLen) → (∀ j u, (xs.map Value.string)[j]? = some u → w.cell? ⟨b, off + j, none⟩ = some u) → ElR 1 (StrR D) w b off xs []
  | [], _, _, _ => rfl
  | x :: r, off, hs, hc => ⟨[.string x], [], [], rfl, fun j u hu => by
      cases j with
      | zero => simp at hu; subst hu; exact hc 0 _ rfl
      | succ j => simp at hu, ⟨rfl, hs x (by simp), rfl⟩, ElR.of_strs (fun y hy => hs y (by simp [hy])) fun j u hu => by
      rw [show off + 1 + j = off + (j + 1) by omega]; exact hc (j + 1) u (by simpa using hu)⟩
theorem SlR.strs {D : Nat} {w : World} {xs : List ByteArray} {A : Option Addr} {len cap : Nat} {F : List Nat} (h : SlR 1 (StrR D) w xs (.slice A len cap) F) : Rd w w.heap.size A len (xs.map Value.string) ∧ (∀ x ∈ xs, x.size ≤ maxLen) := by
  obtain ⟨A', cap', hv, hl, hm, h⟩ := h
  injection hv with hA hlen hc
  subst hA hlen hc
  rcases h with ⟨rfl, _⟩ | ⟨b, off, F', hA, hb, _, he⟩
  · exact ⟨⟨rfl, fun h => by simp at h⟩, by simp⟩
  · obtain ⟨_, g1, g2⟩ := he.strs
    exact ⟨⟨by simp, fun _ => ⟨b, off, hA, hb, g2⟩⟩, g1⟩
theorem bulkS_sum (xs : List ByteArray) : bulkS xs = sumBy (fun x => (x.size : Int)) xs := by
  induction xs with
  | nil => rfl
  | cons x r ih => simp only [bulkS, sumBy, ih]
theorem zs_Str (D : Nat) (l : List ByteArray) (v : Value) (F : List Nat) (w : World) (L : Int) (hs : SlR 1 (StrR D) w l v F) (h0 : 0 ≤ L) (h1 : L ≤ 1048576) :
    Calls Tryz.prog 19 #[v, .int .i64 L] w fun en w' => Sized (l.length + bulkS l) L en ∧ Below w.heap.size w w' := by
  obtain ⟨A, cap, rfl, hlc, hm⟩ := hs.form
  unfold maxLen at hm
  obtain ⟨hr, hx⟩ := hs.strs
  exact (l_szStringS A l.length cap L l _ w hr (by omega) hx h0 h1).mono fun e w' ⟨h, hw⟩ => ⟨h, by subst hw; exact Below.refl _ _⟩
theorem es_Str (D : Nat) (l : List ByteArray) (v v' : Value) (F F' : List Nat) (w : World) (hs : SlR 1 (StrR D) w l v F) (hs' : SlR 1 (StrR D) w l v' F') :
    Calls Tryz.prog 9 #[v, v'] w fun en w' => en = .returned (.bool true) ∧ Below w.heap.size w w' := by
  obtain ⟨A, cap, rfl, hlc, hm⟩ := hs.form
  obtain ⟨A', cap', rfl, hlc', hm'⟩ := hs'.form
  unfold maxLen at hm hm'
  refine (l_eqStringS A A' l.length l.length cap cap' l l _ _ w hs.strs.1 hs'.strs.1 (by omega) (by omega)).mono ?_
  rintro e w' ⟨rfl, hb⟩
  exact ⟨by simp, hb⟩
theorem cs_Str (D : Nat) (l : List ByteArray) (v : Value) (F : List Nat) (w : World) (hs : SlR 1 (StrR D) w l v F) (hl : l.length ≤ 1048576) (hbl : bulkS l ≤ 1048576) :
    Calls Tryz.prog 25 #[v] w fun en w' => ∃ v' F', en = .returned v' ∧ SlR 1 (StrR D) w' l v' F' ∧ Fresh w.heap.size w' F' ∧ Below w.heap.size w w' := by
  obtain ⟨A, cap, rfl, hlc, hm⟩ := hs.form
  obtain ⟨hr, hx⟩ := hs.strs
  refine (l_toStringS A l.length cap l _ w hr hl (Nat.le_refl _)).mono ?_
  rintro e w' ⟨rfl, hblk, hb⟩
  have hel : ElR 1 (StrR D) w' w.heap.size 0 l [] := ElR.of_strs hx fun j u hu => by
    rw [cell_of_row _ _ _ _ _ _ hblk]
    simpa using hu
  obtain ⟨G, hG, hGf⟩ := copy_done (w := w) (by unfold maxLen; omega) hel (Fresh.nil _ _) hblk
  exact ⟨_, G, rfl, hG, hGf, hb⟩
end Go.Proofs.YtjddmboaaebbiaaGreatDoor

/- Marks: the text that stands for a number; texts of a slice overwritten by marks, and held against them. Conditions: numbers from 1 to 2^40. -/
namespace Go.Proofs.YtjddmboaaebbiaaGreatDoor
set_option linter.unusedSimpArgs false
set_option linter.unusedVariables false
set_option maxRecDepth 100000
open Go.RowKit

/-- The decimal digits of k ahead of acc. -/
def dgsF : Nat → Nat → List UInt8 → List UInt8
  | 0, _, acc => acc
  | f + 1, k, acc => if k = 0 then acc else dgsF f (k / 10) ((48 + UInt8.ofNat (k % 10)) :: acc)
def mkT (k : Nat) : ByteArray := ⟨(109 :: dgsF k k []).toArray⟩

theorem dgs_step {f kk : Nat} {acc : List UInt8} (hk : 0 < kk) (hf : kk ≤ f) : dgsF f kk acc = dgsF (f - 1) (kk / 10) ((48 + UInt8.ofNat (kk % 10)) :: acc) := by
  match f, hf with
  | 0, hf => omega
  | f + 1, hf => simp only [dgsF]; rw [if_neg (by omega)]; rfl
theorem dgs_end {f : Nat} {acc : List UInt8} : dgsF f 0 acc = acc := by cases f <;> simp [dgsF]
theorem run_digit (kk : Nat) (W : World) : (convert 97 9 (.slice (some ⟨W.heap.size, 0, none⟩) 1 1)).run Tryz.prog (W.alloc (.cells #[.int .u8 (48 + (kk : Int) % 10)] 5)) =
    .ok (.string ⟨#[(48 + UInt8.ofNat (kk % 10))]⟩) (W.alloc (.cells #[.int .u8 (48 + (kk : Int) % 10)] 5)) := by
  have h := run_convert_bytes_back (P := Tryz.prog) (W.alloc (.cells #[.int .u8 (48 + (kk : Int) % 10)] 5)) 97 9 5 ⟨W.heap.size, 0, none⟩ 1 [(48 + UInt8.ofNat (kk % 10))] Tryz.underlying97 Tryz.underlying5 Tryz.underlying9 (fun j hj => by
    have hj0 : j = 0 := by simpa using hj
    subst hj0
    show World.cell? _ ⟨W.heap.size, 0, none⟩ = _
    rw [cell_of_row _ _ 0 _ _ _ (heap_alloc_new W _)]
    have hm : kk % 10 < 10 := Nat.mod_lt _ (by omega)
    have h8 : (48 + UInt8.ofNat (kk % 10)).toNat = 48 + kk % 10 := by simp [UInt8.toNat_add, UInt8.toNat_ofNat']; omega
    have e : ([(48 + UInt8.ofNat (kk % 10))] : List UInt8)[0].toNat = 48 + kk % 10 := h8
    rw [e]
    simp)
  exact h
theorem l_markText (k : Nat) (h0 : 1 ≤ k) (h1 : k ≤ 1099511627776) (w : World) : Calls Tryz.prog 35 #[.int .i64 k] w fun e w' => e = .returned (.string (mkT k)) ∧ Below w.heap.size w w' := by
  go_enter Tryz.func35, Tryz.ntmps35
  go_wp2
  go_loopw [0, 3] (fun kv o wr => ∃ (kk f : Nat) (acc : List UInt8), kv = .int .i64 kk ∧ o = .string ⟨acc.toArray⟩ ∧ kk ≤ f ∧ Hid (dgsF f kk acc = dgsF k k []) ∧ acc.length + kk ≤ k ∧ Hid (Below w.heap.size w wr)) (fun kv _ _ => (intOf kv).toNat)
  case atStart => exact ⟨k, k, [], rfl, rfl, Nat.le_refl _, hide rfl, by simp, hide (Below.refl _ _)⟩
  case round =>
    obtain ⟨kk, f, acc, rfl, rfl, hf, Hd, hlen, Hb⟩ := hrel
    by_cases hk : 0 < kk
    · have hcv := run_digit kk wr
      have hst := hide (dgs_step (acc := acc) hk hf)
      have h10 : kk / 10 < kk := by omega
      go_wp2
      exact ⟨⟨kk / 10, f - 1, (48 + UInt8.ofNat (kk % 10)) :: acc, by go_num, rfl, by omega, hide (hst.out.symm.trans Hd.out), by simp; omega, hide (Hb.out.alloc Hb.out.size _)⟩, by simp [intOf]; omega⟩
    · have hk0 : kk = 0 := by omega
      have hmk : mkT k = ⟨#[109]⟩ ++ ⟨acc.toArray⟩ := by
        have h := Hd.out
        rw [hk0, dgs_end] at h
        unfold mkT
        rw [← h]
        rfl
      have Hmk := hide hmk
      clear hmk hk0
      go_wp2
      go_ret
      exact ⟨ret_string Hmk.out.symm, Hb.out⟩
/-! ### Slices of texts, marked -/
def marks (k n : Nat) : List ByteArray := (List.range n).map fun i => mkT (k + i)
theorem marks_len (k n : Nat) : (marks k n).length = n := by simp [marks]
theorem marks_succ (k n : Nat) : marks k (n + 1) = marks k n ++ [mkT (k + n)] := by simp [marks, List.range_succ]
theorem marks_at {k n j : Nat} (h : j < n) : (marks k n)[j]? = some (mkT (k + j)) := by simp [marks, h]
theorem marks_set {k j n : Nat} {xs : List ByteArray} (hl : xs.length = n) (hj : j < n) : ((marks k j ++ xs.drop j).map Value.string).set j (.string (mkT (k + j))) = (marks k (j + 1) ++ xs.drop (j + 1)).map Value.string := by
  have hd : xs.drop j = xs[j]'(by omega) :: xs.drop (j + 1) := List.drop_eq_getElem_cons (by omega)
  have hm : ((marks k j).map Value.string).length = j := by simp [marks_len]
  rw [hd, marks_succ]
  simp only [List.map_append, List.map_cons, List.map_nil]
  generalize (marks k j).map Value.string = m at hm
  clear hd
  subst hm
  simp
/-- All but the blocks F stands as it stood; new blocks may have come. -/
structure Apart (F : List Nat) (w w' : World) : Prop where
  os : w'.os = w.os
  tape : w'.tape = w.tape
  output : w'.output = w.output
  size : w.heap.size ≤ w'.heap.size
  block : ∀ b, b < w.heap.size → b ∉ F → w'.heap[b]? = w.heap[b]?
theorem Apart.refl (F : List Nat) (w : World) : Apart F w w := ⟨rfl, rfl, rfl, Nat.le_refl _, fun _ _ _ => rfl⟩
theorem Apart.trans {F : List Nat} {a b c : World} (h : Apart F a b) (g : Apart F b c) : Apart F a c :=
  ⟨g.os.trans h.os, g.tape.trans h.tape, g.output.trans h.output, Nat.le_trans h.size g.size, fun k hk hF => (g.block k (Nat.lt_of_lt_of_le hk h.size) hF).trans (h.block k hk hF)⟩
theorem Apart.of_below {F : List Nat} {w w' : World} (h : Below w.heap.size w w') : Apart F w w' := ⟨h.os, h.tape, h.output, h.size, fun k hk _ => h.block k hk⟩
theorem Apart.more {F G : List Nat} {w w' : World} (h : Apart F w w') (hFG : ∀ b ∈ F, b ∈ G) : Apart G w w' := ⟨h.os, h.tape, h.output, h.size, fun k hk hG => h.block k hk (fun hF => hG (hFG k hF))⟩
theorem Apart.below {F : List Nat} {w w' : World} {B : Nat} (h : Apart F w w') (hF : ∀ b ∈ F, B ≤ b) (hB : B ≤ w.heap.size) : Below B w w' :=
  ⟨h.os, h.tape, h.output, h.size, fun k hk => h.block k (by omega) (fun hm => by have := hF k hm; omega)⟩
theorem Apart.setCell {F : List Nat} {a w : World} (h : Apart F a w) {p : Addr} (hp : p.block ∈ F) (u : Value) : Apart F a (w.setCell p u) :=
  h.trans ⟨rfl, rfl, rfl, by simp [World.setCell], fun k _ hF => heap_setCell_other _ _ _ _ (fun e => hF (e ▸ hp))⟩
theorem SlR.apart {α : Type} {n : Nat} {R : CR α} (hR : Good n R) {w w' : World} {xs : List α} {v : Value} {F G : List Nat} (h : SlR n R w xs v G) (ha : Apart F w w') (hd : ∀ b ∈ G, b ∉ F) : SlR n R w' xs v G :=
  h.frame hR (fun k hk => ha.block k (h.lt hR k hk) (hd k hk)) ha.size
theorem Good.apart {α : Type} {n : Nat} {R : CR α} (hR : Good n R) {w w' : World} {x : α} {cs : List Value} {F G : List Nat} (h : R w x cs G) (ha : Apart F w w') (hd : ∀ b ∈ G, b ∉ F) : R w' x cs G :=
  hR.frame h (fun k hk => ha.block k (hR.lt h k hk) (hd k hk)) ha.size
theorem Fresh.apart {C : Nat} {w w' : World} {F G : List Nat} (h : Fresh C w G) (ha : Apart F w w') (hd : ∀ b ∈ G, b ∉ F) : Fresh C w' G := h.keep fun b hb => ha.block b (h.lt b hb) (hd b hb)
theorem setCell_far {w : World} {p : Addr} {u : Value} {k : Nat} (h : k ≠ p.block) : (w.setCell p u).heap[k]? = w.heap[k]? := heap_setCell_other _ _ _ _ h
theorem cellsAt_set {w : World} {b off j : Nat} {cs : Array Value} {t : TypeId} {us : List Value} {u : Value} (hb : w.heap[b]? = some (.cells cs t (0, 0))) (hj : off + j < cs.size) (h : CellsAt w b off us) :
    CellsAt (w.setCell ⟨b, off + j, none⟩ u) b off (us.set j u) := fun i v hv => by
  have h1 := heap_setCell_same w b (off + j) cs t u hb
  rw [cell_of_row _ _ _ _ _ _ h1, Array.getElem?_setIfInBounds]
  rw [List.getElem?_set] at hv
  by_cases hij : j = i
  · subst hij
    rw [if_pos rfl, if_pos hj]
    rw [if_pos rfl] at hv
    split at hv
    · exact hv
    · cases hv
  · rw [if_neg (by omega)]
    rw [if_neg hij] at hv
    have := h i v hv
    rwa [cell_of_row _ _ _ _ _ _ hb] at this
theorem mkT_small {k : Nat} (hk : k ≤ 1099511627776) : (mkT k).size ≤ maxLen := by
  have h : ∀ (f kk : Nat) (acc : List UInt8), (dgsF f kk acc).length ≤ acc.length + kk := by
    intro f
    induction f with
    | zero => intro kk acc; simp [dgsF]
    | succ f ih =>
      intro kk acc
      simp only [dgsF]
      split
      · omega
      · rename_i hne
        have := ih (kk / 10) ((48 + UInt8.ofNat (kk % 10)) :: acc)
        simp only [List.length_cons] at this
        omega
  have := h k k []
  unfold mkT maxLen
  simp only [ByteArray.size, List.size_toArray, List.length_cons]
  simp at this
  omega

set_option maxRecDepth 100000 in
theorem m_Str (D C k : Nat) (xs : List ByteArray) (v : Value) (F : List Nat) (w : World) (hs : SlR 1 (StrR D) w xs v F) (hf : Fresh C w F) (hk : 1 ≤ k) (hkn : k + xs.length ≤ 1099511627776) :
    Calls Tryz.prog 12 #[v, .int .i64 k] w fun en w' => en = .returned (.int .i64 ((k + xs.length : Nat) : Int)) ∧ SlR 1 (StrR D) w' (marks k xs.length) v F ∧ Fresh C w' F ∧ Apart F w w' := by
  obtain ⟨A, cap, rfl, hlc, hm, hsl⟩ := hs
  rcases hsl with ⟨rfl, rfl⟩ | ⟨b, off, F', rfl, hb, rfl, he⟩
  · go_enter Tryz.func12, Tryz.ntmps12
    go_wp2_with fail
    go_loop [1, 5] (fun kv i => kv = .int .i64 k ∧ i = .int .i64 0) (fun _ _ => 0)
    case atStart => exact ⟨rfl, rfl⟩
    case round =>
      obtain ⟨rfl, rfl⟩ := hrel
      go_wp2_with fail
      go_ret
      exact ⟨rfl, ⟨A, cap, rfl, hlc, hm, .inl ⟨rfl, rfl⟩⟩, hf, Apart.refl _ _⟩
  obtain ⟨rfl, hxl, hc⟩ := he.strs
  obtain ⟨cs0, t, hblk⟩ := hf.cells b (by simp)
  have hsz : 0 < xs.length → off + xs.length ≤ cs0.size := fun h0 => by
    have := hc (xs.length - 1) _ (List.getElem?_eq_getElem (by simp; omega))
    rw [cell_of_row _ _ _ _ _ _ hblk] at this
    have := (Array.getElem?_eq_some_iff.1 this).1
    omega
  have Hf := hide hf
  have Hxl := hide hxl
  have hmm := hm
  unfold maxLen at hmm
  have hlm : xs.length ≤ 9223372036854775807 := by omega
  have Hm := hide (And.intro hlc hm)
  generalize hn : xs.length = n at *
  have Hn := hide hn
  have Hcs := hide hc
  have Hblk := hide hblk
  clear hn hf hxl hc he hblk hlc hm hmm
  go_enter Tryz.func12, Tryz.ntmps12
  go_wp2_with fail
  go_loopw [1, 5] (fun kv i wr => ∃ j : Nat, j ≤ n ∧ i = .int .i64 j ∧ kv = .int .i64 ((k + j : Nat) : Int) ∧ Hid (CellsAt wr b off ((marks k j ++ xs.drop j).map Value.string)) ∧ Hid (∃ cs, wr.heap[b]? = some (.cells cs t (0, 0)) ∧ (0 < n → off + n ≤ cs.size)) ∧ Hid (Apart [b] w wr)) (fun _ i _ => n - (intOf i).toNat)
  case atStart => exact ⟨0, by omega, rfl, rfl, hide (by rw [show marks k 0 = [] from rfl, List.nil_append, List.drop_zero]; exact Hcs.out), hide ⟨cs0, Hblk.out, hsz⟩, hide (Apart.refl _ _)⟩
  case round =>
    obtain ⟨j, hj, rfl, rfl, Hc, Hbk, Ha⟩ := hrel
    by_cases hlt : j < n
    · have hj0 : (0 : Int) ≤ (j : Int) := by omega
      have hj1 : (j : Int) < (n : Int) := by omega
      go_wp2_with fail
      refine (l_markText (k + j) (by omega) (by omega) _).mono ?_
      rintro e w2 ⟨rfl, hb2⟩
      obtain ⟨cs, hcs, hcz⟩ := Hbk.out
      have hcs2 := blk_below hcs hb2 (blk_lt hcs)
      have q := cell_at (i := off + j) hcs2 (by omega)
      have g := frozen_of_row w2 b (off + j) _ _ hcs2
      have Hb2 := hide hb2
      have Hcs2 := hide hcs2
      have Hlt := hide (blk_lt hcs)
      clear hb2 hcs2 hcs
      go_wp2_with fail
      go_roundw
      case rel =>
        refine ⟨j + 1, by omega, by go_num, by go_num, hide ?_, hide ⟨_, heap_setCell_same _ _ _ _ _ _ Hcs2.out, fun _ => by simp; omega⟩, hide ((Ha.out.trans (Apart.of_below Hb2.out)).setCell (by simp) _)⟩
        rw [← marks_set Hn.out hlt]
        exact cellsAt_set Hcs2.out (by omega) (Hc.out.below Hb2.out Hlt.out)
      case measure => simp [intOf]; omega
    · have hjn : j = n := by omega
      subst hjn
      go_wp2_with fail
      go_ret
      have h1 := Hc.out
      rw [List.drop_eq_nil_of_le (by rw [Hn.out]; exact Nat.le_refl _), List.append_nil] at h1
      obtain ⟨cs, hcs, hcz⟩ := Hbk.out
      refine ⟨rfl, ⟨some ⟨b, off, none⟩, cap, by rw [marks_len], by rw [marks_len]; exact Hm.out.1, Hm.out.2, .inr ⟨b, off, [], rfl, blk_lt hcs, rfl, ElR.of_strs (fun x hx => ?_) h1⟩⟩, ⟨Hf.out.nodup, Hf.out.from_, fun c hc => ?_⟩, Ha.out⟩
      · simp only [marks, List.mem_map, List.mem_range] at hx
        obtain ⟨i, hi, rfl⟩ := hx
        exact mkT_small (by omega)
      · simp at hc
        subst hc
        exact ⟨cs, t, hcs⟩
set_option maxRecDepth 100000 in
theorem hd_Str (D k : Nat) (n : Nat) (v : Value) (F : List Nat) (w : World) (hs : SlR 1 (StrR D) w (marks k n) v F) (hk : 1 ≤ k) (hkn : k + n ≤ 1099511627776) :
    Calls Tryz.prog 13 #[v, .int .i64 k] w fun en w' => en = .returned (.int .i64 ((k + n : Nat) : Int)) ∧ Below w.heap.size w w' := by
  obtain ⟨A, cap, rfl, hlc, hm⟩ := hs.form
  have HF := hide (hs.lt (StrR.good D))
  have Hs := hide hs
  rw [marks_len] at hlc hs ⊢
  unfold maxLen at hm
  have hlm : n ≤ 9223372036854775807 := by omega
  clear hs hlc hm
  go_enter Tryz.func13, Tryz.ntmps13
  go_wp2_with fail
  go_loopw [1, 5] (fun kv i wr => ∃ j : Nat, j ≤ n ∧ i = .int .i64 j ∧ kv = .int .i64 ((k + j : Nat) : Int) ∧ Hid (Below w.heap.size w wr)) (fun _ i _ => n - (intOf i).toNat)
  case atStart => exact ⟨0, by omega, rfl, rfl, hide (Below.refl _ _)⟩
  case round =>
    obtain ⟨j, hj, rfl, rfl, Hb⟩ := hrel
    by_cases hlt : j < n
    · have hx := marks_at (k := k) hlt
      obtain ⟨b, off, cs, Fk, hA, _, hbF, hFk, hcl, hcat, hR⟩ := SlR.get (StrR.good D) (Hs.out.below (StrR.good D) Hb.out HF.out) hx
      subst hA
      obtain ⟨rfl, _, _⟩ := hR
      have hblt := Nat.lt_of_lt_of_le (HF.out b hbF) Hb.out.size
      have e0 : ∀ W : World, Below wr.heap.size wr W → W.cell? ⟨b, off + j, none⟩ = some (.string (mkT (k + j))) := fun W h => by
        have := (hcat.below h hblt) 0 _ rfl
        rwa [Nat.mul_one, Nat.add_zero] at this
      have hj0 : (0 : Int) ≤ (j : Int) := by omega
      have hj1 : (j : Int) < (n : Int) := by omega
      clear hx hcat hFk hbF hcl
      go_wp2_with fail
      go_region_held3 (fun W => Below wr.heap.size wr W)
        (first | assumption | exact Below.drew (by first | assumption | exact Below.refl _ _))
        ((go_at_call 35; refine Calls.mono (l_markText (k + j) (by omega) (by omega) _) ?_; rintro en w2 ⟨rfl, hb2⟩; have hB2 : Below wr.heap.size wr w2 := below_step (by (repeat (first | assumption | apply Below.drew | exact Below.refl _ _))) (Nat.le_refl _) hb2; clear hb2))
      have HB2 : Hid (Below w.heap.size w w2) := hide (Hb.out.trans (hB2.mono Hb.out.size))
      clear hB2
      go_wp2_with fail
      go_roundw
      case rel => exact ⟨j + 1, by omega, by go_num, by go_num, HB2⟩
      case measure => simp [intOf]; omega
    · have hjn : j = n := by omega
      subst hjn
      go_wp2_with fail
      go_ret
      exact ⟨rfl, Hb.out⟩
end Go.Proofs.YtjddmboaaebbiaaGreatDoor

/- Contracts of the library functions that this seat calls, laid at the program by the kit's tool: each says what the function hands back. Conditions: as each theorem names them. -/
namespace Go.Proofs
set_option linter.unusedSimpArgs false
set_option linter.unusedVariables false
open Go.Shelf
def Tryz.lays156_ren : Go.Shelf.Ren := ⟨fun | 156 => 71 | 165 => 106 | 166 => 107 | 169 => 108 | 240 => 130 | 241 => 131 | 276 => 143 | 277 => 144 | n => n, fun | 31 => 22 | 9 => 9 | 3 => 3 | 4 => 4 | 0 => 0 | 20 => 20 | 72 => 138 | 76 => 142 | 70 => 136 | 37 => 97 | 75 => 141 | 127 => 159 | 164 => 169 | 5 => 5 | 80 => 144 | n => n, fun | n => n⟩
theorem Tryz.lays156 : Go.Proofs.Lays.n156 Tryz.prog Tryz.lays156_ren := {
  mixed := by kernel_rfl
  f156 := Tryz.func71.trans (congrArg some (by kernel_rfl))
  f165 := Tryz.func106.trans (congrArg some (by kernel_rfl))
  f166 := Tryz.func107.trans (congrArg some (by kernel_rfl))
  f169 := Tryz.func108.trans (congrArg some (by kernel_rfl))
  f240 := Tryz.func130.trans (congrArg some (by kernel_rfl))
  f241 := Tryz.func131.trans (congrArg some (by kernel_rfl))
  f276 := Tryz.func143.trans (congrArg some (by kernel_rfl))
  f277 := Tryz.func144.trans (congrArg some (by kernel_rfl))
  t0 := Tryz.underlying0
  a0 := Tryz.isAgg0
  z0 := Tryz.sizeOf0
  v0 := Tryz.zeroValue0
  t3 := Tryz.underlying3
  a3 := Tryz.isAgg3
  z3 := Tryz.sizeOf3
  v3 := Tryz.zeroValue3
  t4 := Tryz.underlying4
  a4 := Tryz.isAgg4
  z4 := Tryz.sizeOf4
  v4 := Tryz.zeroValue4
  t9 := Tryz.underlying9
  a9 := Tryz.isAgg9
  z9 := Tryz.sizeOf9
  v9 := Tryz.zeroValue9
  t20 := Tryz.underlying20
  a20 := Tryz.isAgg20
  z20 := Tryz.sizeOf20
  v20 := Tryz.zeroValue20
  t31 := Tryz.underlying22
  a31 := Tryz.isAgg22
  z31 := Tryz.sizeOf22
  v31 := Tryz.zeroValue22
  t37 := Tryz.underlying97
  a37 := Tryz.isAgg97
  z37 := Tryz.sizeOf97
  v37 := Tryz.zeroValue97
  t70 := Tryz.underlying136
  a70 := Tryz.isAgg136
  z70 := Tryz.sizeOf136
  v70 := Tryz.zeroValue136
  t72 := Tryz.underlying138
  a72 := Tryz.isAgg138
  z72 := Tryz.sizeOf138
  v72 := Tryz.zeroValue138
  t75 := Tryz.underlying141
  a75 := Tryz.isAgg141
  z75 := Tryz.sizeOf141
  v75 := Tryz.zeroValue141
  t76 := Tryz.underlying142
  a76 := Tryz.isAgg142
  z76 := Tryz.sizeOf142
  v76 := Tryz.zeroValue142
  t127 := Tryz.underlying159
  a127 := Tryz.isAgg159
  z127 := Tryz.sizeOf159
  v127 := Tryz.zeroValue159
  t164 := Tryz.underlying169
  a164 := Tryz.isAgg169
  z164 := Tryz.sizeOf169
  v164 := Tryz.zeroValue169 }
theorem Tryz.Builder_Extra_156 : Builder.Extra Tryz.prog Tryz.lays156_ren := {
  sizeBuilder := by kernel_rfl
  liesBuilder := by kernel_rfl
  t5 := Tryz.underlying5
  a5 := Tryz.isAgg5
  z5 := Tryz.sizeOf5
  v5 := Tryz.zeroValue5
  infoByte := by kernel_rfl
  cellsByte := by kernel_rfl
  sizeByte := by kernel_rfl
  neB5 := by decide }
open Go.RowKit in
/-- No element: the empty string; the world is as it was. (Whatever the slice's address and capacity: a nil slice too.) (LAID: no walk: one application.) -/
theorem Tryz.strings_Join_none (a : Option Addr) (c : Nat) (sep : ByteArray) (w : World) :
    Calls Tryz.prog 71 #[.slice a 0 c, .string sep] w fun e w' => e = .returned (.string ⟨#[]⟩) ∧ w' = w := Any.strings_Join_none Tryz.lays156 Tryz.Builder_Extra_156 a c sep w
open Go.RowKit in
/-- strings.Join: "Join concatenates the elements of its first argument to create a single string. The separator string sep is placed between elements in the resulting string.": HOWEVER MANY ELEMENTS. Below the heap's end the world is as it was. (LAID: no walk: one application.) -/
theorem Tryz.strings_Join (bk o c : Nat) (xs : List ByteArray) (sep : ByteArray) (w : World) (hcells : ∀ (j : Nat) x, xs[j]? = some x → w.cell? ⟨bk, o + j, none⟩ = some (.string x)) (hbk : bk < w.heap.size) (hN : xs.length ≤ 140737488355328) (hcap : xs.length ≤ c) (hlen : (Lib.join (xs.map (·.data.toList)) sep.data.toList).length ≤ 140737488355328) :
    Calls Tryz.prog 71 #[.slice (some ⟨bk, o, none⟩) xs.length c, .string sep] w fun e w' => e = .returned (.string ⟨(Lib.join (xs.map (·.data.toList)) sep.data.toList).toArray⟩) ∧ Below w.heap.size w w' := Any.strings_Join Tryz.lays156 Tryz.Builder_Extra_156 bk o c xs sep w hcells hbk hN hcap hlen
def Tryz.laysM171_ren : Go.Shelf.Ren := ⟨fun | 171 => 58 | 243 => 92 | 246 => 123 | 283 => 137 | 284 => 138 | 285 => 139 | 286 => 140 | 129 => 148 | 317 => 147 | 318 => 149 | 319 => 150 | 320 => 151 | 337 => 153 | 338 => 154 | n => n, fun | 3 => 3 | 9 => 9 | 2 => 2 | 4 => 4 | 171 => 162 | 0 => 0 | 53 => 163 | 37 => 97 | 5 => 5 | 173 => 166 | 212 => 172 | 51 => 173 | 20 => 20 | 213 => 174 | 46 => 127 | 232 => 177 | 233 => 178 | n => n, fun | 17 => 2 | 18 => 4 | 19 => 5 | n => n⟩
theorem Tryz.laysM171 : Go.Proofs.LaysM.n171 Tryz.prog Tryz.laysM171_ren := {
  mixed := by kernel_rfl
  f129 := Tryz.func148.trans (congrArg some (by kernel_rfl))
  f171 := Tryz.func58.trans (congrArg some (by kernel_rfl))
  f243 := Tryz.func92.trans (congrArg some (by kernel_rfl))
  f246 := Tryz.func123.trans (congrArg some (by kernel_rfl))
  f283 := Tryz.func137.trans (congrArg some (by kernel_rfl))
  f284 := Tryz.func138.trans (congrArg some (by kernel_rfl))
  f285 := Tryz.func139.trans (congrArg some (by kernel_rfl))
  f286 := Tryz.func140.trans (congrArg some (by kernel_rfl))
  f317 := Tryz.func147.trans (congrArg some (by kernel_rfl))
  f318 := Tryz.func149.trans (congrArg some (by kernel_rfl))
  f319 := Tryz.func150.trans (congrArg some (by kernel_rfl))
  f320 := Tryz.func151.trans (congrArg some (by kernel_rfl))
  f337 := Tryz.func153.trans (congrArg some (by kernel_rfl))
  f338 := Tryz.func154.trans (congrArg some (by kernel_rfl))
  t0 := Tryz.underlying0
  a0 := Tryz.isAgg0
  z0 := Tryz.sizeOf0
  v0 := Tryz.zeroValue0
  t2 := Tryz.underlying2
  a2 := Tryz.isAgg2
  z2 := Tryz.sizeOf2
  v2 := Tryz.zeroValue2
  t3 := Tryz.underlying3
  a3 := Tryz.isAgg3
  z3 := Tryz.sizeOf3
  v3 := Tryz.zeroValue3
  t4 := Tryz.underlying4
  a4 := Tryz.isAgg4
  z4 := Tryz.sizeOf4
  v4 := Tryz.zeroValue4
  t5 := Tryz.underlying5
  a5 := Tryz.isAgg5
  z5 := Tryz.sizeOf5
  v5 := Tryz.zeroValue5
  t9 := Tryz.underlying9
  a9 := Tryz.isAgg9
  z9 := Tryz.sizeOf9
  v9 := Tryz.zeroValue9
  t20 := Tryz.underlying20
  a20 := Tryz.isAgg20
  z20 := Tryz.sizeOf20
  v20 := Tryz.zeroValue20
  t37 := Tryz.underlying97
  a37 := Tryz.isAgg97
  z37 := Tryz.sizeOf97
  v37 := Tryz.zeroValue97
  t46 := Tryz.underlying127
  a46 := Tryz.isAgg127
  z46 := Tryz.sizeOf127
  v46 := Tryz.zeroValue127
  t51 := Tryz.underlying173
  a51 := Tryz.isAgg173
  z51 := Tryz.sizeOf173
  v51 := Tryz.zeroValue173
  t53 := Tryz.underlying163
  a53 := Tryz.isAgg163
  z53 := Tryz.sizeOf163
  v53 := Tryz.zeroValue163
  t171 := Tryz.underlying162
  a171 := Tryz.isAgg162
  z171 := Tryz.sizeOf162
  v171 := Tryz.zeroValue162
  t173 := Tryz.underlying166
  a173 := Tryz.isAgg166
  z173 := Tryz.sizeOf166
  v173 := Tryz.zeroValue166
  t212 := Tryz.underlying172
  a212 := Tryz.isAgg172
  z212 := Tryz.sizeOf172
  v212 := Tryz.zeroValue172
  t213 := Tryz.underlying174
  a213 := Tryz.isAgg174
  z213 := Tryz.sizeOf174
  t232 := Tryz.underlying177
  a232 := Tryz.isAgg177
  z232 := Tryz.sizeOf177
  v232 := Tryz.zeroValue177
  t233 := Tryz.underlying178
  a233 := Tryz.isAgg178
  z233 := Tryz.sizeOf178
  v233 := Tryz.zeroValue178
  g17 := by kernel_rfl
  g18 := by kernel_rfl
  g19 := by kernel_rfl
  i0 := by kernel_rfl
  i2 := by kernel_rfl
  i3 := by kernel_rfl
  i4 := by kernel_rfl
  i5 := by kernel_rfl
  i9 := by kernel_rfl
  i20 := by kernel_rfl
  i37 := by kernel_rfl
  i46 := by kernel_rfl
  i51 := by kernel_rfl
  i53 := by kernel_rfl
  i171 := by kernel_rfl
  i173 := by kernel_rfl
  i212 := by kernel_rfl
  i232 := by kernel_rfl
  i233 := by kernel_rfl
  m17 := by kernel_rfl
  m18 := by kernel_rfl
  m19 := by kernel_rfl }
open Go.RowKit Go.Sort Go.Lib in
/-- strconv.Itoa: "Itoa is equivalent to FormatInt(int64(i), 10).": i's DECIMAL NUMERAL ('Lib.itoa': a '-' where i is negative, then the digits), FOR EVERY int. The world behind the call: the world before it, new blocks behind the heap (the library's 'var a [24]byte'), draws. (LAID: no walk: one application.) -/
theorem Tryz.strconv_Itoa (n : Int) (h0 : -9223372036854775808 ≤ n) (h1 : n ≤ 9223372036854775807) (w : World) (htab : Lib.TabIs Tryz.prog w "internal/strconv.uint64pow10" .u64 Lib.pow10Tab) :
    Calls Tryz.prog 58 #[.int .i64 n] w fun e w' => e = .returned (.string ⟨(Lib.itoa n).toArray⟩) ∧ ∃ k os, w' = grow (w.drewN k) os := Any.strconv_Itoa Tryz.laysM171 n h0 h1 w htab
end Go.Proofs

/- An integer in decimal: both sides. Conditions: it fits an int; the program's: the library's table of powers is laid. -/
namespace Go.Proofs.YtjddmboaaebbiaaGreatDoor
set_option linter.unusedSimpArgs false
set_option linter.unusedVariables false
set_option maxRecDepth 100000
open Go.RowKit Go.Lib
set_option linter.unusedVariables false

def preD (u : Nat) : List UInt8 := if u = 0 then [] else decDigits u
theorem dig_eq {r : Nat} (h : r < 10) : UInt8.ofNat (48 + r) = 48 + UInt8.ofNat r := by
  apply UInt8.toNat_inj.1
  simp [UInt8.toNat_add, UInt8.toNat_ofNat']
theorem preD_step {u : Nat} (h : 0 < u) (out : List UInt8) : preD (u / 10) ++ ((48 + UInt8.ofNat (u % 10)) :: out) = preD u ++ out := by
  rw [← dig_eq (Nat.mod_lt _ (by omega))]
  unfold preD
  rw [if_neg (by omega : ¬ u = 0)]
  by_cases h10 : u < 10
  · rw [if_pos (by omega : u / 10 = 0), decDigits, dif_pos h10, Nat.mod_eq_of_lt h10]
    rfl
  · rw [if_neg (by omega : ¬ u / 10 = 0)]
    conv => rhs; rw [decDigits, dif_neg h10]
    simp
theorem cat1 (b : UInt8) (out : List UInt8) : (⟨#[b]⟩ : ByteArray) ++ ⟨out.toArray⟩ = ⟨(b :: out).toArray⟩ := by
  apply ByteArray.ext
  simp
set_option maxRecDepth 100000 in
theorem s_FormatInt (n : Int) (h0 : -9223372036854775808 ≤ n) (h1 : n ≤ 9223372036854775807) (w : World) :
    Calls Tryz.prog 23 #[.int .i64 n] w fun e w' => e = .returned (.string ⟨(itoa n).toArray⟩) ∧ Below w.heap.size w w' := by
  by_cases hz : n = 0
  · subst hz
    go_enter Tryz.func23, Tryz.ntmps23
    go_wp2
    go_ret
    have h00 : itoa 0 = [48] := by unfold itoa; rw [if_neg (by omega), decDigits, dif_pos (by decide)]; rfl
    exact ⟨ret_string (by rw [h00]), Below.refl _ _⟩
  have hz0 : (n == 0) = false := by simpa using hz
  have Hn0 := hide hz
  go_enter Tryz.func23, Tryz.ntmps23
  go_wp2
  go_loopw [0, 4, 5] (fun a o d wr => ∃ (m : Int) (out : List UInt8), a = .int .i64 m ∧ o = .string ⟨out.toArray⟩ ∧ -9223372036854775808 ≤ m ∧ m ≤ 9223372036854775807 ∧ Hid (preD m.natAbs ++ out = decDigits n.natAbs) ∧ Hid (Below w.heap.size w wr)) (fun a _ _ _ => (RowKit.intOf a).natAbs)
  case atStart => exact ⟨n, [], rfl, rfl, h0, h1, hide (by unfold preD; rw [if_neg (by omega), List.append_nil]), hide (Below.refl _ _)⟩
  case round =>
    obtain ⟨m, out, rfl, rfl, hm0, hm1, Hp, Hb⟩ := hrel
    have hol : out.length ≤ 20 := by
      have h1 := congrArg List.length Hp.out
      rw [List.length_append, decDigits_length] at h1
      have := nDigits_le20 n.natAbs (by omega)
      omega
    by_cases hmz : m = 0
    · subst hmz
      have Hq : Hid (out = decDigits n.natAbs) := hide (by simpa [preD] using Hp.out)
      by_cases hneg : n < 0
      · have hd : decide (n < 0) = true := by simpa using hneg
        have Hr : Hid (itoa n = 45 :: out) := hide (by unfold itoa; rw [if_pos hneg, Hq.out]; try (congr 2; omega))
        go_wp2
        go_ret
        exact ⟨ret_string (by rw [Hr.out]; apply ByteArray.ext; simp), Hb.out⟩
      · have hd : decide (n < 0) = false := by simpa using hneg
        have Hr : Hid (itoa n = out) := hide (by unfold itoa; rw [if_neg hneg, Hq.out]; try (congr 1; omega))
        go_wp2
        go_ret
        exact ⟨ret_string (by rw [Hr.out]), Hb.out⟩
    · have hne : (m != 0) = true := by simpa using hmz
      obtain ⟨u, hu⟩ : ∃ u : Nat, m.natAbs = u := ⟨_, rfl⟩
      rw [hu] at Hp
      have hu0 : 0 < u := by omega
      have Hst := hide (preD_step hu0 out)
      have hr10 : u % 10 < 10 := Nat.mod_lt _ (by omega)
      have hdm := Nat.div_add_mod u 10
      have hdig := run_digit u
      have Hcat := hide (cat1 (48 + UInt8.ofNat (u % 10)) out)
      have Hfin : Hid (preD (u / 10) ++ ((48 + UInt8.ofNat (u % 10)) :: out) = decDigits n.natAbs) := hide (by rw [Hst.out]; exact Hp.out)
      rcases (show m = (u : Int) ∨ m = -(u : Int) by omega) with hm | hm
      · have e1 : Int.tmod m 10 = ((u : Int) % 10) := by rw [hm]; rfl
        have e2 : Int.tdiv m 10 = ((u : Int) / 10) := by rw [hm]; rfl
        have hlt : decide ((u : Int) % 10 < 0) = false := by simp; omega
        have hr0 : 0 ≤ (u : Int) % 10 := by omega
        have hr1 : (u : Int) % 10 < 10 := by omega
        go_wp2
        refine ⟨⟨(u : Int) / 10, (48 + UInt8.ofNat (u % 10)) :: out, by go_num, by rw [← Hcat.out], by omega, by omega, hide (by rw [show ((u : Int) / 10).natAbs = u / 10 by omega]; exact Hfin.out), hide (Hb.out.alloc Hb.out.size _)⟩, by simp [RowKit.intOf]; omega⟩
      · have e1 : Int.tmod m 10 = -((u : Int) % 10) := by rw [hm, Int.neg_tmod]; rfl
        have e2 : Int.tdiv m 10 = -((u : Int) / 10) := by rw [hm, Int.neg_tdiv]; rfl
        have hr0 : 0 ≤ (u : Int) % 10 := by omega
        have hr1 : (u : Int) % 10 < 10 := by omega
        by_cases hz10 : (u : Int) % 10 = 0
        · have hlt : decide (-((u : Int) % 10) < 0) = false := by simp; omega
          have ez : -((u : Int) % 10) = (u : Int) % 10 := by omega
          rw [ez] at e1 hlt
          simp only [hz10, Int.add_zero] at hdig
          clear ez
          go_wp2
          refine ⟨⟨-((u : Int) / 10), (48 + UInt8.ofNat (u % 10)) :: out, by go_num, by rw [← Hcat.out], by omega, by omega, hide (by rw [show (-((u : Int) / 10)).natAbs = u / 10 by omega]; exact Hfin.out), hide (Hb.out.alloc Hb.out.size _)⟩, by simp [RowKit.intOf]; omega⟩
        · have hlt : decide (-((u : Int) % 10) < 0) = true := by simp; omega
          have ez : 0 - -((u : Int) % 10) = (u : Int) % 10 := by omega
          go_wp2
          refine ⟨⟨-((u : Int) / 10), (48 + UInt8.ofNat (u % 10)) :: out, by go_num, by rw [← Hcat.out], by omega, by omega, hide (by rw [show (-((u : Int) / 10)).natAbs = u / 10 by omega]; exact Hfin.out), hide (Hb.out.alloc Hb.out.size _)⟩, by simp [RowKit.intOf]; omega⟩
theorem i_FormatInt (n : Int) (h0 : -9223372036854775808 ≤ n) (h1 : n ≤ 9223372036854775807) (w : World) (htab : TabIs Tryz.prog w "internal/strconv.uint64pow10" .u64 pow10Tab) :
    Calls Tryz.prog 29 #[.int .i64 n] w fun e w' => e = .returned (.string ⟨(itoa n).toArray⟩) ∧ Below w.heap.size w w' := by
  have Ht := hide htab
  clear htab
  go_enter Tryz.func29, Tryz.ntmps29
  go_wp2_with (go_at_call 58; refine (Tryz.strconv_Itoa n h0 h1 _ Ht.out).mono ?_; rintro e w' ⟨rfl, k, os, rfl⟩)
  go_ret
  exact ⟨rfl, below_grow _ _ (Nat.le_refl _) k os⟩
theorem wf_i64 {n : Int} (h : (Lit.int .i64 n).wf = true) : -9223372036854775808 ≤ n ∧ n ≤ 9223372036854775807 := by
  have e1 : IntKind.i64.min = -9223372036854775808 := rfl
  have e2 : IntKind.i64.max = 9223372036854775807 := rfl
  simp [Lit.wf, e1, e2] at h
  omega
theorem tab_pow10 {r : List (String × DataW Unit)} {w : World} (h : laidMet Tryz.prog (("internal/strconv.uint64pow10", tabData .u64 pow10Tab) :: r) w) : TabIs Tryz.prog w "internal/strconv.uint64pow10" .u64 pow10Tab :=
  tabIs_of_head (g := (Tryz.prog.globalNamed "internal/strconv.uint64pow10").getD 0) (t := 172) (e := 163) (n := 20) (by kernel_rfl) (by kernel_rfl) Tryz.underlying172 Tryz.underlying163 (by kernel_rfl) (by kernel_rfl) h
end Go.Proofs.YtjddmboaaebbiaaGreatDoor

/- One element appended to a row that the call owns. Plain: no program. -/
namespace Go.Proofs.YtjddmboaaebbiaaGreatDoor
set_option linter.unusedSimpArgs false
set_option linter.unusedVariables false
set_option maxRecDepth 100000
open Go.RowKit

theorem own_below {w w' : World} {base e size n : Nat} {v : Value} {xs : List Value} (h : w.ownsRow base e size v n xs) (hb : Below w.heap.size w w') : w'.ownsRow base e size v n xs := by
  obtain ⟨h1, h2⟩ := h
  refine ⟨h1, ?_⟩
  rcases h2 with h2 | ⟨g, cap, cur, h3, h4, h5, h6⟩
  · exact .inl h2
  · exact .inr ⟨g, cap, cur, h3, h4, blk_below h5 hb (blk_lt h5), h6⟩
theorem app_own {P : Program} {ops : Array Oper} {rest : List Oper} {o : Oper} {a : Act} {Q : Exit → Act → World → Prop} (hgd : o.guard = none) (s x : Operand) (t e : TypeId)
    (ho : o.op = .call { callee := .builtin .append, args := #[s, x], argTypes := #[t, t] }) (ht : P.underlying t = some (.slice e)) {z : Value} {size bytes : Nat}
    (hinfo : (P.info? e).map (fun i => (i.zero, i.size, i.bytes)) = some (some z, size, bytes)) (hzs : z.cells.size = size) (hsz : 0 < size) (wr : World) (base : Nat) (v : Value) (n : Nat) (xs : List Value)
    (hown : wr.ownsRow base e size v n xs) (hs : a.eval s = v) (ys : List Value) (hyl : ys.length = size) (hy1 : ∀ u ∈ ys, u.oneCell' = true) (hx : a.eval x = .slice (some ⟨wr.heap.size, 0, none⟩) 1 1)
    (hn : n + 1 ≤ 1099511627776) (hby : (n + 1) * bytes ≤ 140737488355328) (hbase : base ≤ wr.heap.size)
    (h : ∀ v' w', w'.ownsRow base e size v' (n + 1) (xs ++ ys) → Below base wr w' → wpList P ops Q rest (a.put o.dst v') w') : wpList P ops Q (o :: rest) a (wr.alloc (.cells ys.toArray e)) := by
  obtain ⟨i0, hi, hz0, hz1, hz2⟩ := info_parts hinfo
  refine wpList_append_own _ hgd s x t ho base e i0 z size bytes ht hi hz0 hz1 hz2 hzs hsz v n xs hs (own_below hown ((Below.refl _ _).alloc (Nat.le_refl _) _)) ⟨wr.heap.size, 0, none⟩ 1 1 ys hx (by omega) (fun j u hu => ?_) hy1 (by unfold maxLen; omega) hby (by simp; omega) ?_
  · have := CellsAt.new wr ys e j u hu
    rw [Nat.zero_add] at this
    unfold Addr.add
    split
    · rename_i h0
      subst h0
      exact this
    · rw [show (0 : Nat) + j = j by omega]
      exact this
  · intro v' w' h1 h2 _
    refine h v' w' h1 (((Below.refl base wr).alloc hbase _).grown h2 (by simp; omega) (fun k hk => ?_))
    obtain ⟨_, h3⟩ := hown
    rcases h3 with ⟨rfl, _⟩ | ⟨g, c0, cur, rfl, hg, _⟩
    · cases hk
    · simp only [Value.ownBlock, Option.some.injEq] at hk
      omega
end Go.Proofs.YtjddmboaaebbiaaGreatDoor

/- Texts joined: contracts of both sides. Conditions: at most 2^20 texts of together at most 2^20 bytes; the separator has at most 2^20 bytes. -/
namespace Go.Proofs.YtjddmboaaebbiaaGreatDoor
set_option linter.unusedSimpArgs false
set_option linter.unusedVariables false
set_option maxRecDepth 100000
open Go.RowKit Go.WideShapes
set_option linter.unusedVariables false

/-- Bytes as cells. -/
def bc (l : List UInt8) : List Value := l.map fun b => Value.int .u8 b.toNat
theorem bc_append (l : List UInt8) (s : ByteArray) : bc l ++ Lib.strCells s = bc (l ++ s.data.toList) := by simp [bc, Lib.strCells]
theorem bc_len (l : List UInt8) : (bc l).length = l.length := by simp [bc]
/-- A text appended to a row of bytes that the call owns. -/
theorem app_str {P : Program} {ops : Array Oper} {rest : List Oper} {o : Oper} {a : Act} {Q : Exit → Act → World → Prop} (hgd : o.guard = none) (sl x : Operand) (t u e : TypeId)
    (ho : o.op = .call { callee := .builtin .append, args := #[sl, x], argTypes := #[t, u] }) (ht : P.underlying t = some (.slice e)) (hu : P.underlying u = some .string)
    (hinfo : (P.info? e).map (fun i => (i.zero, i.size, i.bytes)) = some (some (.int .u8 0), 1, 1)) (wr : World) (base : Nat) (v : Value) (l : List UInt8)
    (hown : wr.ownsRow base e 1 v l.length (bc l)) (hs : a.eval sl = v) (s : ByteArray) (hx : a.eval x = .string s) (hn : l.length + s.size ≤ 140737488355328) (hbase : base ≤ wr.heap.size)
    (h : ∀ v' w', w'.ownsRow base e 1 v' (l ++ s.data.toList).length (bc (l ++ s.data.toList)) → Below base wr w' → wpList P ops Q rest (a.put o.dst v') w') : wpList P ops Q (o :: rest) a wr := by
  obtain ⟨i0, hi, hz0, hz1, hz2⟩ := info_parts hinfo
  refine Lib.wpList_append_own_string _ hgd sl x t u ho base e i0 ht hu hi hz0 hz1 hz2 v l.length (bc l) hs hown s hx (by unfold maxLen; omega) hn hbase ?_
  intro v' w' h1 h2 _
  have hl : (l ++ s.data.toList).length = l.length + s.size := by rw [List.length_append, Array.length_toList]; rfl
  refine h v' w' (by rw [hl, ← bc_append]; exact h1) ((Below.refl base wr).grown h2 hbase fun k hk => (hown.lt k hk).1)
/-- The bytes of an owned row, taken as a text. -/
theorem str_own {P : Program} {w : World} {base : Nat} {v : Value} {l : List UInt8} {src e dst : TypeId} (hs : P.underlying src = some (.slice e)) (he : P.underlying e = some (.int .u8)) (hd : P.underlying dst = some .string)
    (h : w.ownsRow base e 1 v l.length (bc l)) : (convert src dst v).run P w = .ok (.string ⟨l.toArray⟩) w := by
  rcases h.2 with ⟨rfl, h0⟩ | ⟨g, cap, cur, rfl, _⟩
  · have : l = [] := List.length_eq_zero_iff.1 h0
    subst this
    exact run_convert_bytes_nil w src e hs he 0 0 dst hd
  · refine run_convert_bytes_back w src dst e _ cap l hs he hd fun j hj => ?_
    have := h.cellAt j (by omega)
    unfold Addr.add
    split
    · rename_i h0
      subst h0
      rw [this]; simp [bc, List.getElem?_eq_getElem hj]
    · rw [show (0 : Nat) + j = j by omega, this]; simp [bc, List.getElem?_eq_getElem hj]

/-- What texts make when joined, in bytes. -/
def joinL (xs : List ByteArray) (s : ByteArray) : List UInt8 := Lib.join (xs.map (·.data.toList)) s.data.toList
theorem joinL_nil (s : ByteArray) : joinL [] s = [] := rfl
theorem joinL_first {xs : List ByteArray} {s x : ByteArray} (hx : xs[0]? = some x) : joinL (xs.take 1) s = joinL (xs.take 0) s ++ x.data.toList := by
  cases xs with
  | nil => simp at hx
  | cons y r => simp at hx; subst hx; simp [joinL, Lib.join_one, Lib.join_nil]
theorem joinL_next {xs : List ByteArray} {s x : ByteArray} {j : Nat} (hj : 0 < j) (hx : xs[j]? = some x) : joinL (xs.take (j + 1)) s = joinL (xs.take j) s ++ s.data.toList ++ x.data.toList := by
  cases xs with
  | nil => simp at hx
  | cons y r =>
    obtain ⟨k, rfl⟩ : ∃ k, j = k + 1 := ⟨j - 1, by omega⟩
    simp only [List.getElem?_cons_succ] at hx
    have := Lib.joinTail_take_succ s.data.toList (r.map (·.data.toList)) k x.data.toList (by simp [hx])
    simp only [joinL, List.take_succ_cons, List.map_cons, Lib.join_cons, List.map_take, this, List.append_assoc]
theorem lens_bulk (xs : List ByteArray) : (Lib.lens (xs.map (·.data.toList)) : Int) = bulkS xs := by
  induction xs with
  | nil => rfl
  | cons x r ih =>
    have e : x.data.toList.length = x.size := by rw [Array.length_toList]; rfl
    simp only [Lib.lens, List.map_cons, List.sum_cons, bulkS] at ih ⊢
    rw [e]
    omega
theorem joinL_len {xs : List ByteArray} {s : ByteArray} (hs : s.size ≤ 1048576) (hl : xs.length ≤ 1048576) (hb : bulkS xs ≤ 1099511627776) (j : Nat) : (joinL (xs.take j) s).length ≤ 2199023255552 := by
  have hb' : bulkS (xs.take j) ≤ 1099511627776 := by
    have := Lib.lens_take_le (xs.map (·.data.toList)) j
    rw [← List.map_take] at this
    have h1 := lens_bulk (xs.take j)
    have h2 := lens_bulk xs
    omega
  have hl' : (xs.take j).length ≤ 1048576 := Nat.le_trans (List.length_take_le' _ _) hl
  generalize xs.take j = ys at hb' hl'
  cases ys with
  | nil => simp [joinL_nil]
  | cons y r =>
    have e : s.data.toList.length = s.size := by rw [Array.length_toList]; rfl
    have h1 := lens_bulk (y :: r)
    have h2 := Lib.join_length y.data.toList (r.map (·.data.toList)) s.data.toList
    have h3 : s.size * r.length ≤ 1048576 * 1048576 := Nat.mul_le_mul hs (by simp at hl'; omega)
    unfold joinL
    simp only [List.map_cons] at h1 ⊢
    rw [h2, e, List.length_map]
    omega
theorem infoU8 : (Tryz.prog.info? 5).map (fun i => (i.zero, i.size, i.bytes)) = some (some (.int .u8 0), 1, 1) := by kernel_rfl
set_option maxRecDepth 100000 in
set_option maxHeartbeats 800000 in
theorem s_Join (D : Nat) (xs : List ByteArray) (v : Value) (F : List Nat) (w : World) (hs : SlR 1 (StrR D) w xs v F) (s : ByteArray) (hss : s.size ≤ 1048576) (hn : xs.length ≤ 1048576) (hb : bulkS xs ≤ 1099511627776) :
    Calls Tryz.prog 39 #[v, .string s] w fun en w' => en = .returned (.string ⟨(joinL xs s).toArray⟩) ∧ Below w.heap.size w w' := by
  obtain ⟨A, cap, rfl, _, _⟩ := hs.form
  obtain ⟨hr, hx⟩ := hs.strs
  have HF := hide (hs.lt (StrR.good D))
  have Hs := hide hs
  have Hlen := hide (joinL_len (s := s) hss hn hb)
  have Hx : Hid (∀ (j : Nat) x, xs[j]? = some x → (x.size : Int) ≤ 1099511627776) := hide fun j x hx => by
    have h1 := Lib.lens_take_succ (xs.map (·.data.toList)) j x.data.toList (by simp [hx])
    have h2 := Lib.lens_take_le (xs.map (·.data.toList)) (j + 1)
    have h3 := lens_bulk xs
    have e : x.data.toList.length = x.size := by rw [Array.length_toList]; rfl
    omega
  have hlm : xs.length ≤ 9223372036854775807 := by omega
  clear hs hr hx hb
  go_enter Tryz.func39, Tryz.ntmps39
  go_wp2_with fail
  go_loopw [5, 6] (fun o i wr => ∃ j : Nat, j ≤ xs.length ∧ i = .int .i64 j ∧ Hid (wr.ownsRow w.heap.size 5 1 o (joinL (xs.take j) s).length (bc (joinL (xs.take j) s))) ∧ Hid (Below w.heap.size w wr)) (fun _ i _ => xs.length - (intOf i).toNat)
  case atStart => exact ⟨0, by omega, rfl, hide ⟨rfl, .inr ⟨w.heap.size, 0, #[], rfl, Nat.le_refl _, heap_alloc_new w _, Nat.le_refl _, by simp [maxLen], rfl, rfl⟩⟩, hide ((Below.refl _ _).alloc (Nat.le_refl _) _)⟩
  case round =>
    obtain ⟨j, hj, rfl, Ho, Hb⟩ := hrel
    by_cases hlt : j < xs.length
    · have hx : xs[j]? = some xs[j] := List.getElem?_eq_getElem hlt
      generalize xs[j] = x at hx
      obtain ⟨b, off, cs, Fk, hA, _, hbF, hFk, hcl, hcat, hR⟩ := SlR.get (StrR.good D) (Hs.out.below (StrR.good D) Hb.out HF.out) hx
      subst hA
      obtain ⟨rfl, _, _⟩ := hR
      have e0 : wr.cell? ⟨b, off + j, none⟩ = some (.string x) := by
        have := hcat 0 _ rfl
        rwa [Nat.mul_one, Nat.add_zero] at this
      have hblt := HF.out b hbF
      have hj0 : (0 : Int) ≤ (j : Int) := by omega
      have hj1 : (j : Int) < (xs.length : Int) := by omega
      have HX := hide hx
      have hbz := Hb.out.size
      have hxz := Hx.out j x hx
      have hll := Hlen.out j
      clear hx hcat hFk hbF hcl
      by_cases hp : (0 : Int) < (j : Int)
      · have Hk := hide (joinL_next (s := s) (show 0 < j by omega) HX.out)
        generalize joinL (xs.take j) s = l0 at Ho hll Hk
        have ec : ∀ W : World, Below w.heap.size wr W → W.cell? ⟨b, off + j, none⟩ = some (.string x) := fun W h => (h.cell (p := ⟨b, off + j, none⟩) hblt).trans e0
        have hl1 : (l0 ++ s.data.toList).length + x.size ≤ 140737488355328 := by
          have h1 : (l0 ++ s.data.toList).length = l0.length + s.size := by rw [List.length_append, Array.length_toList]; rfl
          omega
        go_wp2_with (first
          | (at_builtin; refine app_str rfl (.tmp 16) (.tmp 17) 97 9 5 rfl Tryz.underlying97 Tryz.underlying9 infoU8 wr w.heap.size _ l0 Ho.out rfl s rfl (by omega) hbz ?_; intro v1 w1 hown1 hbl1)
          | (at_builtin; refine app_str rfl (.tmp 19) (.tmp 23) 97 9 5 rfl Tryz.underlying97 Tryz.underlying9 infoU8 w1 w.heap.size _ (l0 ++ s.data.toList) hown1 rfl x rfl hl1 (Nat.le_trans hbz hbl1.size) ?_; intro v2 w2 hown2 hbl2))
        go_roundw
        case rel =>
          refine ⟨j + 1, by omega, by go_num, hide ?_, hide ((Hb.out.trans hbl1).trans hbl2)⟩
          rw [Hk.out]
          exact hown2
        case measure => simp [intOf]; omega
      · obtain rfl : j = 0 := by omega
        rw [Nat.add_zero] at e0
        have hj2 : (0 : Int) < (xs.length : Int) := by omega
        have Hk := hide (joinL_first (s := s) HX.out)
        generalize joinL (xs.take 0) s = l0 at Ho hll Hk
        go_wp2_with (at_builtin; refine app_str rfl (.tmp 19) (.tmp 23) 97 9 5 rfl Tryz.underlying97 Tryz.underlying9 infoU8 wr w.heap.size _ _ Ho.out rfl x rfl (by omega) hbz ?_; intro v2 w2 hown hbl
                     have Hown2 := hide hown
                     have Hbl2 := hide hbl
                     clear hown hbl)
        go_roundw
        case rel =>
          refine ⟨1, by omega, by go_num, hide ?_, hide (Hb.out.trans Hbl2.out)⟩
          rw [Hk.out]
          exact Hown2.out
        case measure => simp [intOf]; omega
    · have hjl : j = xs.length := by omega
      subst hjl
      have hcv := str_own (P := Tryz.prog) (src := 97) (dst := 9) Tryz.underlying97 Tryz.underlying5 Tryz.underlying9 Ho.out
      rw [List.take_length] at hcv
      go_wp2_with fail
      go_ret
      exact ⟨rfl, Hb.out⟩
theorem i_Join (D : Nat) (xs : List ByteArray) (v : Value) (F : List Nat) (w : World) (hs : SlR 1 (StrR D) w xs v F) (s : ByteArray) (hss : s.size ≤ 1048576) (hn : xs.length ≤ 1048576) (hb : bulkS xs ≤ 1099511627776) :
    Calls Tryz.prog 43 #[v, .string s] w fun en w' => en = .returned (.string ⟨(joinL xs s).toArray⟩) ∧ Below w.heap.size w w' := by
  have hc : Calls Tryz.prog 71 #[v, .string s] w fun en w' => en = .returned (.string ⟨(joinL xs s).toArray⟩) ∧ Below w.heap.size w w' := by
    have hl := joinL_len (s := s) hss hn hb xs.length
    rw [List.take_length] at hl
    obtain ⟨A, cap, rfl, hlc, _⟩ := hs.form
    obtain ⟨hr, _⟩ := hs.strs
    cases xs with
    | nil =>
      refine (Tryz.strings_Join_none A cap s w).mono ?_
      rintro e w' ⟨rfl, rfl⟩
      exact ⟨rfl, Below.refl _ _⟩
    | cons x r =>
      obtain ⟨b, off, rfl, hb', hc⟩ := hr.2 (by simp)
      refine (Tryz.strings_Join b off cap (x :: r) s w (fun j y hy => hc j _ (by rw [List.getElem?_map, hy]; rfl)) hb' (by omega) hlc (by unfold joinL at hl; omega)).mono ?_
      rintro e w' ⟨rfl, h⟩
      exact ⟨rfl, h⟩
  go_enter Tryz.func43, Tryz.ntmps43
  go_wp2_with (go_at_call 71; refine hc.mono ?_; rintro e w' ⟨rfl, hbl⟩)
  go_ret
  exact ⟨rfl, hbl⟩
end Go.Proofs.YtjddmboaaebbiaaGreatDoor

/- Rows that the call owns, of things of several cells that own blocks of their own: one appended, the row told as a slice. Plain: no program. -/
namespace Go.Proofs.YtjddmboaaebbiaaGreatDoor
set_option linter.unusedSimpArgs false
set_option linter.unusedVariables false
set_option maxRecDepth 100000
open Go.RowKit

/-- The elements of a row by their cells, one behind another. -/
def ElL {α : Type} (R : CR α) (w : World) : List α → List Value → List Nat → Prop
  | [], cl, F => cl = [] ∧ F = []
  | x :: r, cl, F => ∃ cs cr F1 F2, cl = cs ++ cr ∧ F = F1 ++ F2 ∧ R w x cs F1 ∧ ElL R w r cr F2
section
variable {α : Type} {n : Nat} {R : CR α}
theorem ElL.frame (hR : Good n R) {w w' : World} (hz : w.heap.size ≤ w'.heap.size) : ∀ {xs : List α} {cl : List Value} {F : List Nat}, ElL R w xs cl F → (∀ k ∈ F, w'.heap[k]? = w.heap[k]?) → ElL R w' xs cl F
  | [], _, _, h, _ => h
  | x :: r, cl, F, h, hk => by
    obtain ⟨cs, cr, F1, F2, rfl, rfl, h1, h2⟩ := h
    exact ⟨cs, cr, F1, F2, rfl, rfl, hR.frame h1 (fun k hk' => hk k (by simp [hk'])) hz, ElL.frame hR hz h2 (fun k hk' => hk k (by simp [hk']))⟩
theorem ElL.snoc {w : World} {x : α} {cs : List Value} {G : List Nat} (hx : R w x cs G) : ∀ {xs : List α} {cl : List Value} {F : List Nat}, ElL R w xs cl F → ElL R w (xs ++ [x]) (cl ++ cs) (F ++ G)
  | [], cl, F, h => by
    obtain ⟨rfl, rfl⟩ := h
    exact ⟨cs, [], G, [], by simp, by simp, hx, rfl, rfl⟩
  | y :: r, cl, F, h => by
    obtain ⟨c1, cr, F1, F2, rfl, rfl, h1, h2⟩ := h
    exact ⟨c1, cr ++ cs, F1, F2 ++ G, by simp, by simp, h1, ElL.snoc hx h2⟩
theorem ElL.toR (hR : Good n R) {w : World} {b : Nat} : ∀ {xs : List α} {cl : List Value} {F : List Nat} {off : Nat}, ElL R w xs cl F → CellsAt w b off cl → ElR n R w b off xs F
  | [], cl, F, off, h, _ => h.2
  | x :: r, cl, F, off, h, hc => by
    obtain ⟨cs, cr, F1, F2, rfl, rfl, h1, h2⟩ := h
    have hl := hR.len h1
    refine ⟨cs, F1, F2, rfl, fun j u hu => hc j u ?_, h1, ElL.toR hR h2 fun j u hu => ?_⟩
    · rw [List.getElem?_append_left (List.getElem?_eq_some_iff.1 hu).1]; exact hu
    · have := hc (n + j) u (by rw [List.getElem?_append_right (by omega), show n + j - cs.length = j by omega]; exact hu)
      rwa [show off + n + j = off + (n + j) by omega]
end
/-- A row of the call's own that holds xs; F: the blocks that its elements own. -/
structure OwnS {α : Type} (n : Nat) (R : CR α) (B : Nat) (e : TypeId) (w : World) (xs : List α) (v : Value) (F : List Nat) : Prop where
  row : ∃ cl, w.ownsRow B e n v xs.length cl ∧ ElL R w xs cl F
  fresh : Fresh B w F
  off : ∀ k ∈ F, v.ownBlock ≠ some k
section
variable {α : Type} {n B : Nat} {R : CR α} {e : TypeId} {w w' : World} {xs : List α} {v : Value} {F : List Nat}
theorem OwnS.nil (w : World) : OwnS n R B e w [] (.slice none 0 0) [] := ⟨⟨[], World.ownsRow_nil _ _ _ _, rfl, rfl⟩, Fresh.nil _ _, by simp⟩
theorem OwnS.made (w : World) (hB : B ≤ w.heap.size) : OwnS n R B e (w.alloc (.cells #[] e)) [] (.slice (some ⟨w.heap.size, 0, none⟩) 0 0) [] :=
  ⟨⟨[], World.ownsRow_made w #[] 0 hB (by simp [maxLen]) (by simp), rfl, rfl⟩, Fresh.nil _ _, by simp⟩
theorem OwnS.blk (h : OwnS n R B e w xs v F) : ∀ k, v.ownBlock = some k → B ≤ k ∧ k < w.heap.size := by
  obtain ⟨cl, h1, _⟩ := h.row
  exact h1.lt
theorem OwnS.below (hR : Good n R) (h : OwnS n R B e w xs v F) (hb : Below w.heap.size w w') : OwnS n R B e w' xs v F := by
  obtain ⟨⟨cl, h1, h2⟩, h3, h4⟩ := h
  exact ⟨⟨cl, own_below h1 hb, h2.frame hR hb.size fun k hk => hb.block k (h3.lt k hk)⟩, h3.below hb, h4⟩
theorem OwnS.form (h : OwnS n R B e w xs v F) : ∃ A cap, v = .slice A xs.length cap ∧ xs.length ≤ cap ∧ cap ≤ maxLen := by
  obtain ⟨⟨cl, ⟨_, h2⟩, _⟩, _, _⟩ := h
  rcases h2 with ⟨rfl, h0⟩ | ⟨g, cap, cur, rfl, hg, hb, hn, hm, hc, ht⟩
  · exact ⟨none, 0, by rw [h0], by omega, by simp [maxLen]⟩
  · exact ⟨_, cap, rfl, hn, hm⟩
/-- The row told as a slice. -/
theorem OwnS.slr (hR : Good n R) (h : OwnS n R B e w xs v F) : ∃ G, SlR n R w xs v G ∧ Fresh B w G := by
  obtain ⟨⟨cl, ⟨h1, h2⟩, hel⟩, h3, h4⟩ := h
  rcases h2 with ⟨rfl, h0⟩ | ⟨g, cap, cur, rfl, hg, hb, hn, hm, hc, ht⟩
  · obtain rfl := List.length_eq_zero_iff.1 h0
    exact ⟨[], ⟨none, 0, rfl, Nat.le_refl _, by simp [maxLen], .inl ⟨rfl, rfl⟩⟩, Fresh.nil _ _⟩
  · cases xs with
    | nil => exact ⟨[], ⟨_, cap, rfl, hn, hm, .inl ⟨rfl, rfl⟩⟩, Fresh.nil _ _⟩
    | cons x r =>
      have hcat : CellsAt w g 0 cl := fun j u hu => by
        rw [cell_of_row _ _ _ _ _ _ hb, Nat.zero_add]
        rw [← ht, List.getElem?_take] at hu
        split at hu
        · simpa using hu
        · cases hu
      refine ⟨g :: F, ⟨_, cap, rfl, hn, hm, .inr ⟨g, 0, F, rfl, blk_lt hb, rfl, hel.toR hR hcat⟩⟩, ⟨List.nodup_cons.2 ⟨fun hk => h4 g hk rfl, h3.nodup⟩, fun b hb' => ?_, fun b hb' => ?_⟩⟩
      · rcases List.mem_cons.1 hb' with rfl | hb'
        · exact hg
        · exact h3.from_ b hb'
      · rcases List.mem_cons.1 hb' with rfl | hb'
        · exact ⟨cur, e, hb⟩
        · exact h3.cells b hb'
end
/-- Where the row lies behind an append: where it lay, or in a new block. -/
theorem run_append_where {P : Program} (w : World) (base : Nat) (t ty e : TypeId) (i : TypeInfo) (z : Value) (size bytes : Nat) (ht : P.underlying t = some (.slice e)) (hi : P.info? e = some i) (hz : i.zero = some z)
    (hsize : i.size = size) (hby : i.bytes = bytes) (hzs : z.cells.size = size) (hsz : 0 < size)
    (v : Value) (n : Nat) (xs : List Value) (hown : w.ownsRow base e size v n xs)
    (a : Addr) (m c : Nat) (news : List Value) (hl : news.length = m * size) (hnews : ∀ j u, news[j]? = some u → w.cell? (a.add j) = some u) (h1 : ∀ u ∈ news, u.oneCell' = true)
    (h63 : n + m ≤ maxLen) (hbytes : (n + m) * bytes ≤ 140737488355328) (hbase : base ≤ w.heap.size) :
    ∃ v' w', (Builtin.append_ #[t, t] ty #[v, .slice (some a) m c]).run P w = .ok v' w' ∧ w'.ownsRow base e size v' (n + m) (xs ++ news) ∧ w.grownBy w' v.ownBlock ∧
      (∀ k, v'.ownBlock = some k → v.ownBlock = some k ∨ w.heap.size ≤ k) := by
  obtain ⟨v', w', hr, h2, h3, _⟩ := run_append_own (P := P) w base t ty e i z size bytes ht hi hz hsize hby hzs hsz v n xs hown a m c news hl hnews h1 h63 hbytes hbase
  refine ⟨v', w', hr, h2, h3, ?_⟩
  subst hsize
  subst hby
  rcases hown.2 with ⟨rfl, rfl⟩ | ⟨g, cap, cur, rfl, hbg, hg, hnc, hcm, hcs, htake⟩
  · have hx : xs = [] := List.eq_nil_of_length_eq_zero (by simpa using hown.1)
    subst hx
    obtain ⟨v2, w2, hr2, g2, _, _⟩ := run_append_own (P := P) w w.heap.size t ty e i z i.size i.bytes ht hi hz rfl rfl hzs hsz _ 0 [] (World.ownsRow_nil w w.heap.size e i.size) a m c news hl hnews h1 h63 hbytes (Nat.le_refl _)
    rw [hr] at hr2
    injection hr2 with hv hw
    subst hv hw
    exact fun k hk => .inr (g2.lt k hk).1
  · by_cases hroom : n + m ≤ cap
    · have hfit : n * i.size + news.length ≤ cur.size := by rw [hl, hcs, ← Nat.add_mul]; exact Nat.mul_le_mul_right _ hroom
      have hr2 := run_append_room (P := P) w t ty e i ht hi g n cap cur hg a m c news hl hnews h1 hroom hfit
      rw [hr] at hr2
      injection hr2 with hv hw
      subst hv
      exact fun k hk => .inl hk
    · have holds : ∀ j u, xs[j]? = some u → w.cell? ((⟨g, 0, none⟩ : Addr).add j) = some u := hown.cells (g := g) rfl
      unfold maxLen at h63 hcm
      have hr2 := run_append_grow (P := P) w t ty e i z ht hi hz ⟨g, 0, none⟩ n cap xs hown.1 holds a m c news hl hnews (by omega) (by omega) (growslice_fits (by omega) hbytes)
      rw [hr] at hr2
      injection hr2 with hv hw
      subst hv
      intro k hk
      simp only [Value.ownBlock, Option.some.injEq] at hk
      exact .inr (by omega)
/-- One element appended to the row: what is new of it came behind the row. -/
theorem app_ownS {α : Type} {P : Program} {ops : Array Oper} {rest : List Oper} {o : Oper} {a : Act} {Q : Exit → Act → World → Prop} (hgd : o.guard = none) (s x : Operand) (t e : TypeId)
    (ho : o.op = .call { callee := .builtin .append, args := #[s, x], argTypes := #[t, t] }) (ht : P.underlying t = some (.slice e)) {z : Value} {size bytes : Nat}
    (hinfo : (P.info? e).map (fun i => (i.zero, i.size, i.bytes)) = some (some z, size, bytes)) (hzs : z.cells.size = size) (hsz : 0 < size) {R : CR α} (hR : Good size R) (wr W : World) (base : Nat) (v : Value) (xs : List α) (F : List Nat)
    (hown : OwnS size R base e wr xs v F) (hs : a.eval s = v) (hbW : Below wr.heap.size wr W) (y : α) (ys : List Value) (G : List Nat) (hy : R W y ys G) (hG : Fresh wr.heap.size W G) (hy1 : ∀ u ∈ ys, u.oneCell' = true)
    (hx : a.eval x = .slice (some ⟨W.heap.size, 0, none⟩) 1 1)
    (hn : xs.length + 1 ≤ 1099511627776) (hby : (xs.length + 1) * bytes ≤ 140737488355328) (hbase : base ≤ wr.heap.size)
    (h : ∀ v' w', OwnS size R base e w' (xs ++ [y]) v' (F ++ G) → Below base wr w' → wpList P ops Q rest (a.put o.dst v') w') : wpList P ops Q (o :: rest) a (W.alloc (.cells ys.toArray e)) := by
  obtain ⟨i0, hi, hz0, hz1, hz2⟩ := info_parts hinfo
  have hbA : Below wr.heap.size wr (W.alloc (.cells ys.toArray e)) := hbW.alloc hbW.size _
  have hlen := hR.len hy
  have hFlt := hown.fresh.lt
  have hblk := hown.blk
  obtain ⟨⟨cl, hrow, hel⟩, hf, hoff⟩ := hown
  have hcells : ∀ j u, ys[j]? = some u → (W.alloc (.cells ys.toArray e)).cell? ((⟨W.heap.size, 0, none⟩ : Addr).add j) = some u := fun j u hu => by
    have := CellsAt.new W ys e j u hu
    rw [Nat.zero_add] at this
    unfold Addr.add
    split
    · rename_i h0
      subst h0
      exact this
    · rw [show (0 : Nat) + j = j by omega]
      exact this
  have hsz1 : wr.heap.size ≤ (W.alloc (.cells ys.toArray e)).heap.size := hbA.size
  refine wpList_plain hgd fun K hK => ?_
  obtain ⟨v', w', hr, h2, h3, h4⟩ := run_append_where (P := P) (W.alloc (.cells ys.toArray e)) base t o.type e i0 z size bytes ht hi hz0 hz1 hz2 hzs hsz v xs.length cl (own_below hrow hbA) ⟨W.heap.size, 0, none⟩ 1 1 ys (by omega) hcells hy1 (by unfold maxLen; omega) hby (by omega)
  have hblkA : ∀ k, k < W.heap.size → v.ownBlock ≠ some k → w'.heap[k]? = W.heap[k]? := fun k hk hne => by
    rw [h3.block k (by rw [World.size_alloc]; omega) (fun he => hne he.symm), Below.heap_alloc W _ k hk]
  have hWw : wr.heap.size ≤ W.heap.size := hbW.size
  have hF' : ∀ k ∈ F, w'.heap[k]? = wr.heap[k]? := fun k hk => by
    have hk1 := hFlt k hk
    rw [hblkA k (by omega) (hoff k hk), hbW.block k hk1]
  have hG' : ∀ k ∈ G, w'.heap[k]? = W.heap[k]? := fun k hk => hblkA k (hG.lt k hk) fun he => by
    have h5 := (hblk k he).2
    have h6 := hG.from_ k hk
    omega
  have hzw : W.heap.size ≤ w'.heap.size := Nat.le_trans (by simp) h3.size
  have hres : OwnS size R base e w' (xs ++ [y]) v' (F ++ G) := by
    refine ⟨⟨cl ++ ys, by rw [List.length_append]; exact h2, ElL.snoc (hR.frame hy hG' hzw) (hel.frame hR (by omega) hF')⟩, (hf.keep hF').append (hG.keep hG') hFlt hbase, fun k hk he => ?_⟩
    rcases h4 k he with h5 | h5
    · rcases List.mem_append.1 hk with hk | hk
      · exact hoff k hk h5
      · have := (hblk k h5).2; have := hG.from_ k hk; omega
    · rcases List.mem_append.1 hk with hk | hk
      · have := hFlt k hk; simp at h5; omega
      · have := hG.lt k hk; simp at h5; omega
  have hbl : Below base wr w' := (hbA.mono hbase).grown h3 (by omega) fun k hk => (hblk k hk).1
  have hfin := hK _ _ (h v' w' hres hbl)
  revert hr
  intro hr
  unfold Oper.wp execOp
  simp only [ho, resolve, invoke, builtin, Sem.run_bind, Sem.run_pure, Result.andThen_ok, List.map_toArray, List.map_cons, List.map_nil, hs, hx, hr]
  exact hfin
end Go.Proofs.YtjddmboaaebbiaaGreatDoor
