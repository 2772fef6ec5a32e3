/- Several texts of one proof in one file: What every law of this seat shares: a call that answers true and leaves all old memory as it was meets the row's post. The first thing of a list that is bad by itself or by an earlier name. Plain: no program. Names: what the functions on names return, in the program and in the reference. Conditions: each theorem names its own. -/
import Derived.WalkKit
import Derived.ProofKit
import Derived.OpenShut
import Derived.Carry
import Derived.ShutString
import Derived.Deep.Draws
import Derived.Laws.Rows
import Derived.WideShapes
import Derived.Test.YthlhhnnlbpecnaaGreatRows
import Derived.WalkLawsBesides
import Derived.WalkSpells

/- What every law of this seat shares: a call that answers true and leaves all old memory as it was meets the row's post. Conditions: the row names no package variable. -/
namespace Go.Proofs.YthlhhnnlbpecnaaGreat
set_option linter.unusedSimpArgs false
set_option linter.unusedVariables false
set_option maxRecDepth 100000
open Go.ChangeShapes Go.WideShapes Go.RowKit

section
variable {H : Type} {enc : TypeId × Value → H} {P : Program}

/-- Arguments read again, all at once, where all old memory is as it was. -/
theorem trodAll_below (hl : laidOutB P = true) {W W' : World} (hb : Below W.heap.size W W') {sp : Nat → Bool} :
    ∀ {ts : List TypeId} {vs : List Value} {ds : List (DataW H)} {ps : List MemPlace}, ts.all (fun t => P.readableRec t && decide (t < P.types.size)) = true →
      DataW.TrodAll enc P W 0 (fun _ => true) true ts vs ds ps → (∀ p ∈ ps, p.block < W.heap.size) → (∀ p ∈ ps, sp p.block = true) → DataW.TrodAll enc P W' 0 sp true ts vs ds ps
  | [], _, _, _, _, h, _, _ => by
    obtain ⟨rfl, rfl, rfl⟩ := trodAll_nil h
    exact trodAll_mk0
  | t :: ts, _, _, _, ht, h, hlt, hsp => by
    simp only [List.all_cons, Bool.and_eq_true, decide_eq_true_eq] at ht
    obtain ⟨v, vs1, d, ds1, a, b, rfl, rfl, rfl, h1, h2⟩ := trodAll_cons h
    exact ⟨a, b, WideElems.Trod_stays hl ht.1.1 ht.1.2 h1 (fun x hx => hb.same (hlt x (by simp [hx]))) (fun x hx => hsp x (by simp [hx])),
      trodAll_below hl hb ht.2 h2 (fun x hx => hlt x (by simp [hx])) (fun x hx => hsp x (by simp [hx])), rfl⟩

/-- THE ROW's LAST STEP: true was returned, old memory is as it was. -/
theorem law_post {f : Func} {s : ChangeSpec} {apart fresh handsOn again : Bool} {W W' : World} {args : Array Value} {ds gs : List (DataW H)} {before : List MemPlace} {tb : TypeId}
    (hW : DataW.Whole enc P f.params.toList s.vars apart W args.toList ds gs before) (hb : Below W.heap.size W W') (hl : laidOutB P = true)
    (hts : f.params.toList.all (fun t => P.readableRec t && decide (t < P.types.size)) = true) (hr : f.resultTypes = #[tb]) (ht : P.underlying tb = some .bool)
    (hs : s.vars = []) (hfn : s.fn H ds = { results := [.lit (.bool true)], args := ds }) : s.post enc P f apart fresh handsOn again W args (.bool true) W' := by
  have hlt : ∀ p ∈ before, p.block < W.heap.size := fun p hp => hW.lt p hp
  have hold : ∀ p ∈ before, (fun b => decide (b < W.heap.size)) p.block = true := fun p hp => by simpa using hlt p hp
  have hW0 := hW
  obtain ⟨p, q, hA, hV, hpq, hz, hn⟩ := hW
  rw [hs] at hV
  obtain ⟨rfl, rfl⟩ := trodVars_none hV
  obtain rfl : before = p := by simpa using hpq
  have hargs : ∀ sp : Nat → Bool, (∀ x ∈ before, sp x.block = true) → DataW.TrodAll enc P W' 0 sp true f.params.toList args.toList ds before := fun sp hsp => trodAll_below hl hb hts hA hlt hsp
  have hres : ∀ (b : Nat) (sp : Nat → Bool) (hd : Bool), DataW.TrodAll enc P W' b sp hd f.resultTypes.toList ((Value.bool true).resultList f.resultTypes.size) [.lit (.bool true)] [] := by
    intro b sp hd
    rw [hr]
    exact trodAll_cons_mk (shut_bool ht true) trodAll_mk0
  have hvars : ∀ sp : Nat → Bool, DataW.TrodVars enc P W' sp s.vars [] [] := fun sp => by rw [hs]; rfl
  have hf : s.fn H (ds ++ []) = { results := [.lit (.bool true)], args := ds } := by rw [List.append_nil]; exact hfn
  have e1 : (s.fn H (ds ++ [])).results = [.lit (.bool true)] := by rw [hf]
  have e2 : (s.fn H (ds ++ [])).args = ds := by rw [hf]
  have e3 : (s.fn H (ds ++ [])).vars = [] := by rw [hf]
  have rA : ∀ sp : Nat → Bool, (∀ x ∈ before, sp x.block = true) → DataW.TrodAll enc P W' 0 sp true f.params.toList args.toList (s.fn H (ds ++ [])).args before := fun sp hsp => by rw [e2]; exact hargs sp hsp
  have rR : ∀ (b : Nat) (sp : Nat → Bool) (hd : Bool), DataW.TrodAll enc P W' b sp hd f.resultTypes.toList ((Value.bool true).resultList f.resultTypes.size) (s.fn H (ds ++ [])).results [] := fun b sp hd => by rw [e1]; exact hres b sp hd
  have rV : ∀ sp : Nat → Bool, DataW.TrodVars enc P W' sp s.vars (s.fn H (ds ++ [])).vars [] := fun sp => by rw [e3]; exact hvars sp
  refine ⟨ds, [], before, [], before, [], hW0, rR _ _ _, rA _ hold, rV _, World.keptBut_mono (fun x hx => ⟨hx, Or.inr (by simpa using hx)⟩) (hb.frame (· ∈ before)), fun _ => ?_⟩
  · refine ⟨ok_one hr rfl (okWide_bool_mk ht true), _, _, ([] ++ before) ++ [], ⟨[] ++ before, [], trodAll_append (rA _ (fun _ _ => rfl)) (rR _ _ _), rV _, rfl, ?_, ?_⟩, ?_⟩
    · intro b off hp
      have hin : MemPlace.cell b off ∈ before := by simpa using hp
      rw [hb.frozen (hlt _ hin)]
      exact hz b off hin
    · intro ha
      simpa using hn ha
    · intro x hx _
      simpa using hx
end
/-- A fact kept from the walk's rules. -/
theorem hide {p : Prop} (h : p) : Hid p := h

/-! ### Slices of one-cell elements, nil let in -/
/-- The slice value '.slice A n c' holds the cells xs in w, in a block below B. -/
def Rd (w : World) (B : Nat) (A : Option Addr) (n : Nat) (xs : List Value) : Prop :=
  xs.length = n ∧ (0 < n → ∃ b off, A = some ⟨b, off, none⟩ ∧ b < B ∧ ∀ j u, xs[j]? = some u → w.cell? ⟨b, off + j, none⟩ = some u)

theorem Rd.keep {w w' : World} {B : Nat} {A : Option Addr} {n : Nat} {xs : List Value} (h : Rd w B A n xs) (hk : ∀ p : Addr, p.block < B → w'.cell? p = w.cell? p) : Rd w' B A n xs :=
  ⟨h.1, fun hn => by
    obtain ⟨b, off, e, hb, hc⟩ := h.2 hn
    exact ⟨b, off, e, hb, fun j u hu => (hk _ hb).trans (hc j u hu)⟩⟩
theorem Rd.below {w w' : World} {B : Nat} {A : Option Addr} {n : Nat} {xs : List Value} (h : Rd w B A n xs) (hb : Below B w w') : Rd w' B A n xs := h.keep fun _ hp => hb.cell hp
theorem Rd.more {w : World} {B B' : Nat} {A : Option Addr} {n : Nat} {xs : List Value} (h : Rd w B A n xs) (hB : B ≤ B') : Rd w B' A n xs :=
  ⟨h.1, fun hn => by
    obtain ⟨b, off, e, hb, hc⟩ := h.2 hn
    exact ⟨b, off, e, by omega, hc⟩⟩
theorem Rd.at_ {w : World} {B : Nat} {A : Option Addr} {n : Nat} {xs : List Value} (h : Rd w B A n xs) (hn : 0 < n) :
    ∃ b off, A = some ⟨b, off, none⟩ ∧ b < B ∧ ∀ j u, xs[j]? = some u → w.cell? ⟨b, off + j, none⟩ = some u := h.2 hn
theorem Rd.drewN {w : World} {B : Nat} {A : Option Addr} {n : Nat} {xs : List Value} (h : Rd w B A n xs) (k : Nat) : Rd (w.drewN k) B A n xs := h

theorem cell_lt {w : World} {a : Addr} {u : Value} (h : w.cell? a = some u) : a.block < w.heap.size := by
  rcases Nat.lt_or_ge a.block w.heap.size with hlt | hge
  · exact hlt
  · unfold World.cell? at h
    rw [Array.getElem?_eq_none hge] at h
    cases h
theorem cell_spot {w : World} {a : Addr} {u : Value} (h : w.cell? a = some u) : a.spot = none := by
  unfold World.cell? at h
  split at h
  · split at h
    · cases h
    · rename_i hs
      simpa using hs
  · cases h

/-- Cells behind an address, told by 'Addr.add'. -/
theorem Rd.of_add {w : World} {a : Addr} {n : Nat} {xs : List Value} (hl : xs.length = n) (hc : ∀ j u, xs[j]? = some u → w.cell? (a.add j) = some u) : Rd w w.heap.size (some a) n xs := by
  refine ⟨hl, fun hn => ?_⟩
  have h0 : xs[0]? = some (xs[0]'(by omega)) := List.getElem?_eq_getElem (by omega)
  have hc0 := hc 0 _ h0
  have hs := cell_spot hc0
  have hb := cell_lt hc0
  obtain ⟨b, off, spot⟩ := a
  simp [Addr.add] at hs hb
  subst hs
  refine ⟨b, off, rfl, hb, fun j u hu => ?_⟩
  have := hc j u hu
  unfold Addr.add at this
  split at this
  · rename_i hj
    subst hj
    exact this
  · exact this

section
variable {H : Type} {enc : TypeId × Value → H} {P : Program}
/-- A slice of integers that came in. -/
theorem open_intsR {w : World} {T E C : TypeId} {k : IntKind} {v : Value} {d : DataW H} {p : List MemPlace} (ht : P.underlying T = some (.slice E)) (he : P.underlying E = some (.int k)) (hC : P.cellsOf E = 1)
    (hv : Value.okWide P w .any C T v) (h : DataW.Trod enc P w 0 (fun _ => true) true T v d p) :
    ∃ A n c, ∃ zs : List Int, v = .slice A n c ∧ n ≤ c ∧ c ≤ maxLen ∧ Rd w w.heap.size A n (zs.map (Value.int k)) ∧ ∀ z ∈ zs, (Lit.int k z).wf = true := by
  obtain ⟨a0, len, cap, rfl⟩ := okWide_slice ht hv
  obtain ⟨fuel, hf⟩ := h
  rcases open_ints ht he hC hf with ⟨hcs, hx⟩ | ⟨a, len', cap', zs, hcs, _, hl, hm, hz, hx, hcell, hwz⟩
  · simp [Value.cells] at hcs
    obtain ⟨rfl, rfl, rfl⟩ := hcs
    exact ⟨none, 0, 0, [], rfl, Nat.le_refl _, by simp [maxLen], ⟨rfl, fun h => by omega⟩, by simp⟩
  · simp [Value.cells] at hcs
    obtain ⟨rfl, rfl, rfl⟩ := hcs
    simp at hz
    refine ⟨some a, len, cap, zs.take len, rfl, hl, hm, Rd.of_add (by simp; omega) fun j u hu => ?_, fun z hz' => hwz z (List.mem_of_mem_take hz')⟩
    rw [List.getElem?_map, List.getElem?_take] at hu
    split at hu
    · rename_i hj
      have hjz : j < zs.length := by omega
      rw [List.getElem?_eq_getElem hjz] at hu
      simp at hu
      subst hu
      rw [hcell j hjz]
      simp [List.getD, List.getElem?_eq_getElem hjz]
    · simp at hu

/-- A slice of strings that came in. -/
theorem open_strsR {w : World} {T E C : TypeId} {v : Value} {d : DataW H} {p : List MemPlace} (ht : P.underlying T = some (.slice E)) (he : P.underlying E = some .string) (hC : P.cellsOf E = 1)
    (hv : Value.okWide P w .any C T v) (h : DataW.Trod enc P w 0 (fun _ => true) true T v d p) :
    ∃ A n c, ∃ ss : List ByteArray, v = .slice A n c ∧ n ≤ c ∧ c ≤ maxLen ∧ Rd w w.heap.size A n (ss.map Value.string) ∧ ∀ z ∈ ss, z.size ≤ maxLen := by
  obtain ⟨a0, len, cap, rfl⟩ := okWide_slice ht hv
  obtain ⟨fuel, hf⟩ := h
  rcases open_strings ht he hC hf with ⟨hcs, hx⟩ | ⟨a, len', cap', zs, hcs, _, hl, hm, hz, hx, hcell, hwz⟩
  · simp [Value.cells] at hcs
    obtain ⟨rfl, rfl, rfl⟩ := hcs
    exact ⟨none, 0, 0, [], rfl, Nat.le_refl _, by simp [maxLen], ⟨rfl, fun h => by omega⟩, by simp⟩
  · simp [Value.cells] at hcs
    obtain ⟨rfl, rfl, rfl⟩ := hcs
    simp at hz
    refine ⟨some a, len, cap, zs.take len, rfl, hl, hm, Rd.of_add (by simp; omega) fun j u hu => ?_, fun z hz' => hwz z (List.mem_of_mem_take hz')⟩
    rw [List.getElem?_map, List.getElem?_take] at hu
    split at hu
    · rename_i hj
      have hjz : j < zs.length := by omega
      rw [List.getElem?_eq_getElem hjz] at hu
      simp at hu
      subst hu
      rw [hcell j hjz]
      simp [List.getD, List.getElem?_eq_getElem hjz]
    · simp at hu
end

/-- What a size function answers: -1, or what is left. -/
def Sized (need L : Int) (e : Ending) : Prop := ∃ r : Int, e = .returned (.int .i64 r) ∧ (r = -1 ∨ (0 ≤ r ∧ r = L - need))
theorem ret_int {k1 : IntKind} {a a' : Int} (h1 : a = a') : Ending.returned (.int k1 a) = .returned (.int k1 a') := by rw [h1]
theorem ret_bool {a a' : Bool} (h1 : a = a') : Ending.returned (.bool a) = .returned (.bool a') := by rw [h1]
theorem ret_string {a a' : ByteArray} (h1 : a = a') : Ending.returned (.string a) = .returned (.string a') := by rw [h1]
theorem ret3_int {k1 k2 k3 : IntKind} {a b c a' b' c' : Int} (h1 : a = a') (h2 : b = b') (h3 : c = c') : Ending.returned (.tuple #[.int k1 a, .int k2 b, .int k3 c]) = .returned (.tuple #[.int k1 a', .int k2 b', .int k3 c']) := by rw [h1, h2, h3]

theorem take_snoc {α : Type} {xs : List α} {k : Nat} {x : α} (h : xs[k]? = some x) : xs.take (k + 1) = xs.take k ++ [x] := by
  obtain ⟨hk, rfl⟩ := List.getElem?_eq_some_iff.1 h
  exact List.take_succ_eq_append_getElem hk
theorem Rd.get {w : World} {B : Nat} {A : Option Addr} {n k : Nat} {α : Type} {f : α → Value} {xs : List α} (h : Rd w B A n (xs.map f)) (hk : k < n) :
    ∃ b off x, A = some ⟨b, off, none⟩ ∧ b < B ∧ xs[k]? = some x ∧ w.cell? ⟨b, off + k, none⟩ = some (f x) := by
  obtain ⟨b, off, hA, hb, hc⟩ := h.2 (by omega)
  have hl : k < xs.length := by have := h.1; simp at this; omega
  exact ⟨b, off, xs[k], hA, hb, List.getElem?_eq_getElem hl, hc k _ (by simp [List.getElem?_eq_getElem hl])⟩
theorem Rd.len {w : World} {B : Nat} {A : Option Addr} {n : Nat} {α : Type} {f : α → Value} {xs : List α} (h : Rd w B A n (xs.map f)) : xs.length = n := by have := h.1; simpa using this
/-- A block of one-cell elements, just laid. -/
theorem Rd.new (w : World) (t : TypeId) (xs : List Value) : Rd (w.alloc (.cells xs.toArray t)) (w.heap.size + 1) (some ⟨w.heap.size, 0, none⟩) xs.length xs := by
  refine ⟨rfl, fun _ => ⟨_, _, rfl, by omega, fun j u hu => ?_⟩⟩
  rw [cell_of_row _ _ _ xs.toArray t (0, 0) (heap_alloc_new w _)]
  simpa using hu
theorem bytes_at {s : ByteArray} {k : Nat} (h : k < s.size) : s.data.toList[k]? = some s[k] := by
  rw [List.getElem?_eq_getElem (by simpa using h)]
  rfl
theorem bytes_len (s : ByteArray) : s.data.toList.length = s.size := by simp
theorem byte_lt (c : UInt8) : (0 : Int) ≤ (c.toNat : Int) ∧ (c.toNat : Int) < 256 := by
  have := c.toNat_lt
  omega
theorem bytes_beq (a b : ByteArray) : (a.toList == b.toList) = decide (a = b) := by
  rw [Bool.eq_iff_iff]
  simp only [beq_iff_eq, decide_eq_true_eq, ByteArray.toList_eq]
  exact ⟨fun h => WideShapes.bytes_inj h, fun h => by rw [h]⟩

/-! ### Structs that came in, field by field -/
section
variable {H : Type} {enc : TypeId × Value → H} {P : Program} {w : World} {base fuel : Nat} {sp : Nat → Bool} {held : Bool} {t : TypeId} {fs : Array Field} {cs : List Value} {x : DataW H × List MemPlace}
theorem trod_len (ht : P.underlying t = some (.struct fs)) (h : DataW.trod enc P w base sp held fuel t cs = some x) : cs.length = P.cellsOf t := by
  obtain ⟨xs, n, _, _, hl, _, _⟩ := DataW.trod_struct ht h
  exact hl
theorem trod_field (i : Nat) (f : Field) (ht : P.underlying t = some (.struct fs)) (h : DataW.trod enc P w base sp held fuel t cs = some x) (hf : fs[i]? = some f) :
    ∃ n y, n < fuel ∧ DataW.trod enc P w base sp held n f.type ((cs.drop f.offset).take (P.cellsOf f.type)) = some y := by
  obtain ⟨xs, n, hn, _, _, hxl, hg⟩ := DataW.trod_struct ht h
  have hi : i < fs.size := (Array.getElem?_eq_some_iff.1 hf).1
  have h1 := hg i f hf
  rw [List.getElem?_eq_getElem (by omega)] at h1
  exact ⟨n, _, by omega, h1⟩
theorem field_int (i : Nat) (f : Field) {k : IntKind} (ht : P.underlying t = some (.struct fs)) (h : DataW.trod enc P w base sp held fuel t cs = some x) (hf : fs[i]? = some f) (he : P.underlying f.type = some (.int k)) (hc : P.cellsOf f.type = 1) :
    ∃ z, (cs.drop f.offset).take 1 = [.int k z] ∧ (Lit.int k z).wf = true := by
  obtain ⟨n, y, _, h1⟩ := trod_field i f ht h hf
  rw [hc] at h1
  obtain ⟨z, hz, _, hw⟩ := DataW.trod_int he h1
  exact ⟨z, hz, hw⟩
theorem field_bool (i : Nat) (f : Field) (ht : P.underlying t = some (.struct fs)) (h : DataW.trod enc P w base sp held fuel t cs = some x) (hf : fs[i]? = some f) (he : P.underlying f.type = some .bool) (hc : P.cellsOf f.type = 1) :
    ∃ z, (cs.drop f.offset).take 1 = [.bool z] := by
  obtain ⟨n, y, _, h1⟩ := trod_field i f ht h hf
  rw [hc] at h1
  obtain ⟨z, hz, _⟩ := DataW.trod_bool he h1
  exact ⟨z, hz⟩
theorem field_string (i : Nat) (f : Field) (ht : P.underlying t = some (.struct fs)) (h : DataW.trod enc P w base sp held fuel t cs = some x) (hf : fs[i]? = some f) (he : P.underlying f.type = some .string) (hc : P.cellsOf f.type = 1) :
    ∃ z, (cs.drop f.offset).take 1 = [.string z] ∧ z.size ≤ maxLen := by
  obtain ⟨n, y, _, h1⟩ := trod_field i f ht h hf
  rw [hc] at h1
  obtain ⟨z, hz, _, hw⟩ := DataW.trod_string he h1
  exact ⟨z, hz, hw⟩
/-- A struct by value: its cells. -/
theorem okWide_cells {r : Reach} {b0 : Nat} {v : Value} {d : DataW H} {p : List MemPlace} (ht : P.underlying t = some (.struct fs)) (hv : Value.okWide P w r b0 t v) (h : DataW.Trod enc P w base sp held t v d p) :
    ∃ cs fuel x, v = .agg cs ∧ DataW.trod enc P w base sp held fuel t cs.toList = some x := by
  obtain ⟨cs, rfl, _⟩ := okWide_struct ht hv
  obtain ⟨fuel, hf⟩ := h
  exact ⟨cs, fuel, _, rfl, hf⟩
end
theorem list4 {α : Type} {l : List α} (h : l.length = 4) : ∃ a b c d, l = [a, b, c, d] := by
  match l, h with
  | [a, b, c, d], _ => exact ⟨a, b, c, d, rfl⟩
theorem list2 {α : Type} {l : List α} (h : l.length = 2) : ∃ a b, l = [a, b] := by
  match l, h with
  | [a, b], _ => exact ⟨a, b, rfl⟩
theorem list7 {α : Type} {l : List α} (h : l.length = 7) : ∃ a b c d e f g, l = [a, b, c, d, e, f, g] := by
  match l, h with
  | [a, b, c, d, e, f, g], _ => exact ⟨a, b, c, d, e, f, g, rfl⟩

/-! ### Cells of one block -/
/-- The cells from ⟨b, off⟩ on hold cs. -/
def CellsAt (w : World) (b off : Nat) (cs : List Value) : Prop := ∀ j u, cs[j]? = some u → w.cell? ⟨b, off + j, none⟩ = some u
theorem CellsAt.frame {w w' : World} {b off : Nat} {cs : List Value} (h : CellsAt w b off cs) (hb : w'.heap[b]? = w.heap[b]?) : CellsAt w' b off cs := fun j u hu => by
  have := h j u hu
  unfold World.cell? at this ⊢
  rw [hb]
  exact this
theorem CellsAt.below {w w' : World} {b off B : Nat} {cs : List Value} (h : CellsAt w b off cs) (hb : Below B w w') (hB : b < B) : CellsAt w' b off cs := h.frame (hb.block b hB)
theorem CellsAt.lt {w : World} {b off : Nat} {cs : List Value} (h : CellsAt w b off cs) (hp : 0 < cs.length) : b < w.heap.size :=
  cell_lt (h 0 _ (List.getElem?_eq_getElem hp))
theorem CellsAt.new (w : World) (cs : List Value) (t : TypeId) : CellsAt (w.alloc (.cells cs.toArray t)) w.heap.size 0 cs := fun j u hu => by
  rw [cell_of_row _ _ _ _ _ _ (heap_alloc_new w _)]
  simpa using hu
theorem CellsAt.two {w : World} {b o : Nat} {a0 a1 : Value} (h : CellsAt w b o [a0, a1]) : w.cell? ⟨b, o, none⟩ = some a0 ∧ w.cell? ⟨b, o + 1, none⟩ = some a1 := ⟨h 0 _ rfl, h 1 _ rfl⟩
theorem CellsAt.four {w : World} {b o : Nat} {a0 a1 a2 a3 : Value} (h : CellsAt w b o [a0, a1, a2, a3]) :
    w.cell? ⟨b, o, none⟩ = some a0 ∧ w.cell? ⟨b, o + 1, none⟩ = some a1 ∧ w.cell? ⟨b, o + 2, none⟩ = some a2 ∧ w.cell? ⟨b, o + 3, none⟩ = some a3 := ⟨h 0 _ rfl, h 1 _ rfl, h 2 _ rfl, h 3 _ rfl⟩
theorem CellsAt.seven {w : World} {b o : Nat} {a0 a1 a2 a3 a4 a5 a6 : Value} (h : CellsAt w b o [a0, a1, a2, a3, a4, a5, a6]) :
    w.cell? ⟨b, o, none⟩ = some a0 ∧ w.cell? ⟨b, o + 1, none⟩ = some a1 ∧ w.cell? ⟨b, o + 2, none⟩ = some a2 ∧ w.cell? ⟨b, o + 3, none⟩ = some a3 ∧ w.cell? ⟨b, o + 4, none⟩ = some a4 ∧
      w.cell? ⟨b, o + 5, none⟩ = some a5 ∧ w.cell? ⟨b, o + 6, none⟩ = some a6 := ⟨h 0 _ rfl, h 1 _ rfl, h 2 _ rfl, h 3 _ rfl, h 4 _ rfl, h 5 _ rfl, h 6 _ rfl⟩
/-- At offset 0, as the walk writes it. -/
theorem CellsAt.two0 {w : World} {b : Nat} {a0 a1 : Value} (h : CellsAt w b 0 [a0, a1]) : w.cell? ⟨b, 0, none⟩ = some a0 ∧ w.cell? ⟨b, 1, none⟩ = some a1 := h.two
theorem CellsAt.four0 {w : World} {b : Nat} {a0 a1 a2 a3 : Value} (h : CellsAt w b 0 [a0, a1, a2, a3]) :
    w.cell? ⟨b, 0, none⟩ = some a0 ∧ w.cell? ⟨b, 1, none⟩ = some a1 ∧ w.cell? ⟨b, 2, none⟩ = some a2 ∧ w.cell? ⟨b, 3, none⟩ = some a3 := h.four
theorem CellsAt.seven0 {w : World} {b : Nat} {a0 a1 a2 a3 a4 a5 a6 : Value} (h : CellsAt w b 0 [a0, a1, a2, a3, a4, a5, a6]) :
    w.cell? ⟨b, 0, none⟩ = some a0 ∧ w.cell? ⟨b, 1, none⟩ = some a1 ∧ w.cell? ⟨b, 2, none⟩ = some a2 ∧ w.cell? ⟨b, 3, none⟩ = some a3 ∧ w.cell? ⟨b, 4, none⟩ = some a4 ∧
      w.cell? ⟨b, 5, none⟩ = some a5 ∧ w.cell? ⟨b, 6, none⟩ = some a6 := h.seven
/-- A call's own box of a parameter, then further calls: what is known of the start stays known. -/
theorem box_below {w w' : World} {o : Obj} (hb : Below (w.heap.size + 1) (w.alloc o) w') : Below w.heap.size w w' := ((Below.refl _ _).alloc (Nat.le_refl _) _).trans (hb.mono (by omega))
/-- A block that is known whole, read as a slice. -/
theorem Rd.blk {w : World} {b : Nat} {xs : List Value} {t : TypeId} {fr : Nat × Nat} (h : w.heap[b]? = some (.cells xs.toArray t fr)) : Rd w w.heap.size (some ⟨b, 0, none⟩) xs.length xs := by
  have hlt : b < w.heap.size := (Array.getElem?_eq_some_iff.1 h).1
  refine ⟨rfl, fun _ => ⟨_, _, rfl, hlt, fun j u hu => ?_⟩⟩
  rw [cell_of_row _ _ _ _ _ _ h]
  simpa using hu
theorem blk_below {w w' : World} {b B : Nat} {o : Obj} (h : w.heap[b]? = some o) (hb : Below B w w') (hB : b < B) : w'.heap[b]? = some o := (hb.block b hB).trans h
theorem blk_lt {w : World} {b : Nat} {o : Obj} (h : w.heap[b]? = some o) : b < w.heap.size := (Array.getElem?_eq_some_iff.1 h).1
end Go.Proofs.YthlhhnnlbpecnaaGreat

/- The first thing of a list that is bad by itself or by an earlier name. Plain: no program. -/
namespace Go.Proofs.YthlhhnnlbpecnaaGreat
set_option linter.unusedSimpArgs false
set_option linter.unusedVariables false
set_option maxRecDepth 100000
set_option linter.unusedVariables false

section
variable {α : Type}
/-- x, at place i of l, is not valid or has an earlier name. -/
def isBad (ok : α → Bool) (nm : α → List UInt8) (l : List α) (i : Nat) (x : α) : Bool := !ok x || (l.take i).any fun o => nm o == nm x
def badAt (ok : α → Bool) (nm : α → List UInt8) (l : List α) : Option Nat := (List.range l.length).find? fun i => match l[i]? with | some x => isBad ok nm l i x | none => false
theorem badAt_hit {ok : α → Bool} {nm : α → List UInt8} {l : List α} {j : Nat} {x : α} (h : ∀ k y, k < j → l[k]? = some y → isBad ok nm l k y = false) (hx : l[j]? = some x) (hb : isBad ok nm l j x = true) : badAt ok nm l = some j := by
  have hj : j < l.length := (List.getElem?_eq_some_iff.1 hx).1
  unfold badAt
  rw [List.find?_eq_some_iff_getElem]
  refine ⟨by rw [hx]; exact hb, j, by simpa using hj, by simp, fun k hk => ?_⟩
  have hkl : k < l.length := by omega
  simp only [List.getElem_range]
  rw [List.getElem?_eq_getElem hkl]
  simpa using h k _ hk (List.getElem?_eq_getElem hkl)
theorem badAt_none {ok : α → Bool} {nm : α → List UInt8} {l : List α} (h : ∀ k y, l[k]? = some y → isBad ok nm l k y = false) : badAt ok nm l = none := by
  unfold badAt
  rw [List.find?_eq_none]
  intro k hk
  have hkl : k < l.length := by simpa using hk
  rw [List.getElem?_eq_getElem hkl]
  simpa using h k _ (List.getElem?_eq_getElem hkl)
theorem badAt_good {ok : α → Bool} {nm : α → List UInt8} {l : List α} (h : badAt ok nm l = none) {x : α} (hx : x ∈ l) : ok x = true := by
  obtain ⟨k, hk, rfl⟩ := List.getElem_of_mem hx
  unfold badAt at h
  rw [List.find?_eq_none] at h
  have := h k (by simpa using hk)
  rw [List.getElem?_eq_getElem hk] at this
  simp only [isBad, Bool.or_eq_true, not_or] at this
  have h1 := this.1
  cases hq : ok l[k] with
  | true => rfl
  | false => rw [hq] at h1; exact absurd rfl h1
/-- The first (code, place) at which something breaks: codes outside, places inside. -/
def firstAt (brk : Nat → α → Bool) (l : List α) : Nat → Nat → Option (Nat × Nat)
  | _, 0 => none
  | c, n + 1 => match (List.range l.length).find? (fun i => match l[i]? with | some x => brk c x | none => false) with
    | some i => some (c, i)
    | none => firstAt brk l (c + 1) n
theorem firstAt_hit {brk : Nat → α → Bool} {l : List α} {c n j : Nat} {x : α} (h : ∀ k y, k < j → l[k]? = some y → brk c y = false) (hx : l[j]? = some x) (hb : brk c x = true) : firstAt brk l c (n + 1) = some (c, j) := by
  have hj : j < l.length := (List.getElem?_eq_some_iff.1 hx).1
  have e : (List.range l.length).find? (fun i => match l[i]? with | some x => brk c x | none => false) = some j := by
    rw [List.find?_eq_some_iff_getElem]
    refine ⟨by rw [hx]; exact hb, j, by simpa using hj, by simp, fun k hk => ?_⟩
    have hkl : k < l.length := by omega
    simp only [List.getElem_range]
    rw [List.getElem?_eq_getElem hkl]
    simpa using h k _ hk (List.getElem?_eq_getElem hkl)
  unfold firstAt
  rw [e]
theorem firstAt_next {brk : Nat → α → Bool} {l : List α} {c n : Nat} (h : ∀ (k : Nat) (y : α), l[k]? = some y → brk c y = false) : firstAt brk l c (n + 1) = firstAt brk l (c + 1) n := by
  have e : (List.range l.length).find? (fun i => match l[i]? with | some x => brk c x | none => false) = none := by
    rw [List.find?_eq_none]
    intro k hk
    have hkl : k < l.length := by simpa using hk
    rw [List.getElem?_eq_getElem hkl]
    simpa using h k _ (List.getElem?_eq_getElem hkl)
  conv => lhs; unfold firstAt
  rw [e]
end
end Go.Proofs.YthlhhnnlbpecnaaGreat

/- Names: what the functions on names return, in the program and in the reference. Conditions: none on the text; a list's length fits an int. -/
namespace Go.Proofs.YthlhhnnlbpecnaaGreat
set_option linter.unusedSimpArgs false
set_option linter.unusedVariables false
set_option maxRecDepth 100000
open Go.RowKit
def resvL : List (List UInt8) := [[105, 102], [116, 104, 101, 110], [101, 108, 115, 101], [116, 114, 117, 101], [102, 97, 108, 115, 101], [108, 105, 116], [110, 111, 110, 101], [115, 101, 108, 102], [111, 102], [109, 97, 120], [109, 105, 110], [119, 105, 116, 104], [104, 97, 115]]
/-- A reserved word. -/
def resv (s : ByteArray) : Bool := resvL.any (fun t => s.toList == t)
/-- A text is among texts. -/
def hasS (xs : List ByteArray) (s : ByteArray) : Bool := xs.any (fun x => x.toList == s.toList)
theorem hasS_snoc (xs : List ByteArray) (x s : ByteArray) : hasS (xs ++ [x]) s = (hasS xs s || (x.toList == s.toList)) := by simp [hasS]
theorem hasS_mem {xs : List ByteArray} {x s : ByteArray} {k : Nat} (h : xs[k]? = some x) (he : (x.toList == s.toList) = true) : hasS xs s = true := by
  unfold hasS
  rw [List.any_eq_true]
  exact ⟨x, List.mem_of_getElem? h, he⟩
theorem hasS_resv (s : ByteArray) : hasS (resvL.map fun l => ⟨l.toArray⟩) s = resv s := by
  unfold hasS resv
  rw [List.any_map]
  congr 1
  funext t
  simp only [Function.comp_apply, ByteArray.toList_eq]
  rw [Bool.eq_iff_iff]
  simp only [beq_iff_eq]
  exact eq_comm

theorem i_IsReserved (s : ByteArray) (w : World) : Calls Tryz.prog 116 #[.string s] w fun e w' => e = .returned (.bool (resv s)) ∧ w = w' := by
  go_enter Tryz.func116, Tryz.ntmps116
  go_wp2
  all_goals (go_ret; refine ⟨ret_bool ?_, rfl⟩; unfold resv resvL)
  all_goals (simp_all; done)

theorem s_l1Has (A : Option Addr) (n c : Nat) (s : ByteArray) (xs : List ByteArray) (B : Nat) (w : World) (hr : Rd w B A n (xs.map Value.string)) (hm : n ≤ 9223372036854775807) :
    Calls Tryz.prog 29 #[.slice A n c, .string s] w fun e w' => e = .returned (.bool (hasS xs s)) ∧ w = w' := by
  go_enter Tryz.func29, Tryz.ntmps29
  go_wp2
  go_loop [5] (fun i => ∃ k : Nat, k ≤ n ∧ i = .int .i64 k ∧ hasS (xs.take k) s = false) (fun i => n - (intOf i).toNat)
  case atStart => exact ⟨0, by omega, rfl, rfl⟩
  case round =>
    obtain ⟨k, hk, rfl, hno⟩ := hrel
    have Hno := hide hno
    clear hno
    by_cases hlt : k < n
    · obtain ⟨b, off, x, hA, hb, hx, hc⟩ := hr.get hlt
      subst hA
      have Hx := hide hx
      clear hx
      cases he : (x.toList == s.toList)
      · go_wp2
        go_round
        case rel => exact ⟨k + 1, by omega, by go_num, by rw [take_snoc Hx.out, hasS_snoc, Hno.out, he]; rfl⟩
        case measure => simp [intOf]; omega
      · go_wp2
        go_ret
        exact ⟨ret_bool (hasS_mem Hx.out he).symm, rfl⟩
    · go_wp2
      go_ret
      exact ⟨ret_bool (by have h := Hno.out; rw [List.take_of_length_le (by have := hr.len; omega)] at h; exact h.symm), rfl⟩

theorem s_IsReserved (s : ByteArray) (w : World) : Calls Tryz.prog 103 #[.string s] w fun e w' => e = .returned (.bool (resv s)) ∧ Below w.heap.size w w' := by
  have hn : Rd _ _ _ _ _ := Rd.new w 9 ((resvL.map fun l => (⟨l.toArray⟩ : ByteArray)).map Value.string)
  simp only [resvL, List.map_cons, List.map_nil, List.length_cons, List.length_nil] at hn
  go_enter Tryz.func103, Tryz.ntmps103
  go_wp2_with (first
    | (go_at_call 29; refine (s_l1Has _ _ _ _ (resvL.map fun l => ⟨l.toArray⟩) _ _ hn (by omega)).mono ?_; rintro e w' ⟨rfl, rfl⟩)
    | go_in)
  go_ret
  exact ⟨ret_bool (hasS_resv s), (Below.refl _ _).alloc (Nat.le_refl _) _⟩

/-- A lower-case letter; a digit. -/
def low (c : UInt8) : Bool := decide (97 ≤ (c.toNat : Int) ∧ (c.toNat : Int) ≤ 122)
def dig (c : UInt8) : Bool := decide (48 ≤ (c.toNat : Int) ∧ (c.toNat : Int) ≤ 57)
def ldg (c : UInt8) : Bool := low c || dig c
def headLow (l : List UInt8) : Bool := match l with | [] => true | c :: _ => low c
def shT (l : List UInt8) : Bool := headLow l && l.all ldg
def validN (s : ByteArray) : Bool := shT s.data.toList && decide (0 < s.size) && decide (s.size ≤ 8) && !resv s
theorem shT_snoc (l : List UInt8) (c : UInt8) : shT (l ++ [c]) = (shT l && (low c || (!l.isEmpty && dig c))) := by
  cases l with
  | nil => simp [shT, headLow, ldg]; intro h; simp [h]
  | cons a r => simp [shT, headLow, ldg, Bool.and_assoc]
theorem shT_take_false {l : List UInt8} {k : Nat} (h : shT (l.take k) = false) : shT l = false := by
  rw [Bool.eq_false_iff] at h ⊢
  intro hl
  apply h
  unfold shT at hl ⊢
  rw [Bool.and_eq_true] at hl ⊢
  refine ⟨?_, List.all_eq_true.2 fun x hx => List.all_eq_true.1 hl.2 x (List.mem_of_mem_take hx)⟩
  cases k with
  | zero => rfl
  | succ k =>
    cases l with
    | nil => rfl
    | cons a r => exact hl.1

theorem i_isLower (c : UInt8) (w : World) : Calls Tryz.prog 114 #[.int .u8 (c.toNat : Int)] w fun e w' => e = .returned (.bool (low c)) ∧ w = w' := by
  by_cases h1 : 97 ≤ (c.toNat : Int)
  all_goals
    go_enter Tryz.func114, Tryz.ntmps114
    go_wp2
    go_ret
    exact ⟨ret_bool (by unfold low; rw [Bool.eq_iff_iff]; simp; omega), rfl⟩
theorem i_isDigit (c : UInt8) (w : World) : Calls Tryz.prog 115 #[.int .u8 (c.toNat : Int)] w fun e w' => e = .returned (.bool (dig c)) ∧ w = w' := by
  by_cases h1 : 48 ≤ (c.toNat : Int)
  all_goals
    go_enter Tryz.func115, Tryz.ntmps115
    go_wp2
    go_ret
    exact ⟨ret_bool (by unfold dig; rw [Bool.eq_iff_iff]; simp; omega), rfl⟩

theorem s_l2Shape (s : ByteArray) (w : World) (hs : s.size ≤ maxLen) : Calls Tryz.prog 102 #[.string s] w fun e w' => e = .returned (.bool (shT s.data.toList && decide (0 < s.size))) ∧ w = w' := by
  unfold maxLen at hs
  go_enter Tryz.func102, Tryz.ntmps102
  go_wp2
  go_loop [3] (fun i => ∃ k : Nat, k ≤ s.size ∧ i = .int .i64 k ∧ shT (s.data.toList.take k) = true) (fun i => s.size - (intOf i).toNat)
  case atStart => exact ⟨0, by omega, rfl, rfl⟩
  case round =>
    obtain ⟨k, hk, rfl, hno⟩ := hrel
    have Hno := hide hno
    clear hno
    by_cases hlt : k < s.size
    · have hsn := shT_snoc (s.data.toList.take k) s[k]
      have hem : (!(s.data.toList.take k).isEmpty) = decide (0 < k) := by
        cases k with
        | zero => rfl
        | succ k =>
          have h1 := bytes_len s
          cases hl : s.data.toList with
          | nil => rw [hl] at h1; simp at h1; omega
          | cons a r => simp
      have Hsn := hide hsn
      have Hem := hide hem
      clear hsn hem
      by_cases h1 : 97 ≤ (s[k].toNat : Int) <;> by_cases h2 : (s[k].toNat : Int) ≤ 122 <;> by_cases h3 : 48 ≤ (s[k].toNat : Int) <;> by_cases h4 : (s[k].toNat : Int) ≤ 57 <;> by_cases h5 : 0 < k
      all_goals (try (exfalso; omega))
      all_goals go_wp2
      all_goals first
        | (go_round
           case rel => exact ⟨k + 1, by omega, by go_num, by rw [take_snoc (bytes_at hlt), Hsn.out, Hno.out, Hem.out]; simp [low, dig]; omega⟩
           case measure => simp [intOf]; omega)
        | (go_ret
           refine ⟨ret_bool ?_, rfl⟩
           rw [shT_take_false (k := k + 1) (by rw [take_snoc (bytes_at hlt), Hsn.out, Hno.out, Hem.out]; simp [low, dig]; omega)]
           rfl)
    · go_wp2
      go_ret
      exact ⟨ret_bool (by have h := Hno.out; rw [List.take_of_length_le (by have := bytes_len s; omega)] at h; rw [h]; simp), rfl⟩

theorem s_IsValidName (s : ByteArray) (w : World) (hs : s.size ≤ maxLen) : Calls Tryz.prog 66 #[.string s] w fun e w' => e = .returned (.bool (validN s)) ∧ Below w.heap.size w w' := by
  cases h1 : (shT s.data.toList && decide (0 < s.size))
  · have hv : validN s = false := by unfold validN; rw [h1]; rfl
    have Hv := hide hv
    clear hv
    go_enter Tryz.func66, Tryz.ntmps66
    go_wp2_with (go_at_call 102; refine (s_l2Shape _ _ hs).mono ?_; rintro e w' ⟨rfl, rfl⟩)
    go_ret
    exact ⟨ret_bool Hv.out.symm, Below.refl _ _⟩
  · by_cases h2 : s.size ≤ 8
    · have hv : validN s = !resv s := by unfold validN; rw [h1]; simp [h2]
      have Hv := hide hv
      clear hv
      go_enter Tryz.func66, Tryz.ntmps66
      go_wp2_with (first
        | (go_at_call 102; refine (s_l2Shape _ _ hs).mono ?_; rintro e w' ⟨rfl, rfl⟩)
        | (go_at_call 103; refine (s_IsReserved _ _).mono ?_; rintro e w' ⟨rfl, hb⟩))
      go_ret
      exact ⟨ret_bool Hv.out.symm, hb⟩
    · have hv : validN s = false := by unfold validN; simp [h2]
      have Hv := hide hv
      clear hv
      go_enter Tryz.func66, Tryz.ntmps66
      go_wp2_with (go_at_call 102; refine (s_l2Shape _ _ hs).mono ?_; rintro e w' ⟨rfl, rfl⟩)
      go_ret
      exact ⟨ret_bool Hv.out.symm, Below.refl _ _⟩

theorem validN_false {s : ByteArray} {k : Nat} (hk : k < s.size) (h1 : low s[k] = false) (h2 : dig s[k] = false) : validN s = false := by
  have : shT s.data.toList = false := shT_take_false (k := k + 1) (by rw [take_snoc (bytes_at hk), shT_snoc, h1, h2]; simp)
  unfold validN
  rw [this]
  rfl
theorem validN_of {s : ByteArray} (h : (s.data.toList.take s.size).all ldg = true) (hp : 0 < s.size) (h8 : s.size ≤ 8) : validN s = (low (s[0]'hp) && !resv s) := by
  rw [List.take_of_length_le (by simp)] at h
  have hh : headLow s.data.toList = low (s[0]'hp) := by
    have h0 := bytes_at hp
    cases hl : s.data.toList with
    | nil => rw [hl] at h0; cases h0
    | cons a r => rw [hl] at h0; injection h0 with h0; rw [← h0]; rfl
  unfold validN shT
  rw [h, hh]
  simp [hp, h8]
theorem i_IsValidName (s : ByteArray) (w : World) (hs : s.size ≤ maxLen) : Calls Tryz.prog 81 #[.string s] w fun e w' => e = .returned (.bool (validN s)) ∧ w = w' := by
  unfold maxLen at hs
  go_enter Tryz.func81, Tryz.ntmps81
  go_wp2
  go_loop [6] (fun i => ∃ k : Nat, k ≤ s.size ∧ i = .int .i64 k ∧ (s.data.toList.take k).all ldg = true) (fun i => s.size - (intOf i).toNat)
  case atStart => exact ⟨0, by omega, rfl, rfl⟩
  case round =>
    obtain ⟨k, hk, rfl, hno⟩ := hrel
    have Hno := hide hno
    clear hno
    by_cases hlt : k < s.size
    · cases hL : low s[k] <;> cases hD : dig s[k]
      all_goals go_wp2_with (first
        | (go_at_call 114; refine (i_isLower _ _).mono ?_; rintro e w' ⟨rfl, rfl⟩)
        | (go_at_call 115; refine (i_isDigit _ _).mono ?_; rintro e w' ⟨rfl, rfl⟩))
      all_goals first
        | (go_round
           case rel => exact ⟨k + 1, by omega, by go_num, by rw [take_snoc (bytes_at hlt), List.all_append, Hno.out]; simp [ldg, hL, hD]⟩
           case measure => simp [intOf]; omega)
        | (go_ret
           exact ⟨ret_bool (validN_false hlt hL hD).symm, rfl⟩)
    · have hks : k = s.size := by omega
      have Hks := hide hks
      clear hks
      by_cases hp : 0 < s.size
      · by_cases h8 : s.size ≤ 8
        · cases hL : low (s[0]'hp) <;> cases hR : resv s
          all_goals
            go_wp2_with (first
              | (go_at_call 114; refine (i_isLower _ _).mono ?_; rintro e w' ⟨rfl, rfl⟩)
              | (go_at_call 116; refine (i_IsReserved _ _).mono ?_; rintro e w' ⟨rfl, rfl⟩)
              | go_in)
            go_ret
            exact ⟨ret_bool (by rw [validN_of (by rw [← Hks.out]; exact Hno.out) hp h8, hL, hR]; rfl), rfl⟩
        · go_wp2
          go_ret
          exact ⟨ret_bool (by unfold validN; simp [h8]), rfl⟩
      · go_wp2
        go_ret
        exact ⟨ret_bool (by unfold validN; simp [hp]), rfl⟩
end Go.Proofs.YthlhhnnlbpecnaaGreat
