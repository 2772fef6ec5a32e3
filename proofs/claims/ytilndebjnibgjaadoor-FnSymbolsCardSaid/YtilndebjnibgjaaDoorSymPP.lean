/- Symbols read from a line: what each side reads, and that both find the symbol whose line it is. Plain: no program. -/
import Derived.Test.YtilndebjnibgjaaDoorSymTP
import Derived.Test.YtilndebjnibgjaaDoorSplit
import Derived.Lib.SlicesS
import Derived.Lib.Strings
namespace Go.Proofs.YtilndebjnibgjaaDoor
set_option maxRecDepth 100000
open Go.RowKit Go.Lib
set_option linter.unusedVariables false

theorem splitL_cut {c : UInt8} : ∀ {p : List UInt8} (r : List UInt8), c ∉ p → splitL (p ++ c :: r) c = p :: splitL r c
  | [], r, _ => by
    show (if c = c then [] :: splitL r c else glue [c] (splitL r c)) = _
    rw [if_pos rfl]
  | b :: p, r, h => by
    have hb : ¬ b = c := fun e => h (by simp [e])
    have ih := splitL_cut (p := p) r (fun q => h (List.mem_cons_of_mem _ q))
    show (if b = c then [] :: splitL (p ++ c :: r) c else glue [b] (splitL (p ++ c :: r) c)) = _
    rw [if_neg hb, ih]
    rfl
theorem splitL_one {c : UInt8} : ∀ {p : List UInt8}, c ∉ p → splitL p c = [p]
  | [], _ => rfl
  | b :: p, h => by
    have hb : ¬ b = c := fun e => h (by simp [e])
    have ih := splitL_one (p := p) (fun q => h (List.mem_cons_of_mem _ q))
    show (if b = c then [] :: splitL p c else glue [b] (splitL p c)) = _
    rw [if_neg hb, ih]
    rfl
theorem splitL_row {c : UInt8} : ∀ {l : List (List UInt8)} {p : List UInt8}, c ∉ p → (∀ q ∈ l, c ∉ q) → splitL (p ++ (l.map (fun q => c :: q)).flatten) c = p :: l
  | [], p, h, _ => by simp [splitL_one h]
  | q :: l, p, h, hl => by
    simp only [List.map_cons, List.flatten_cons, List.cons_append]
    rw [splitL_cut _ h, splitL_row (hl q (by simp)) fun x hx => hl x (by simp [hx])]
theorem splitK_row (c : UInt8) : ∀ (k : Nat) (s : List UInt8), (splitL s c).length ≤ k + 1 → splitK [c] 0 k s = splitL s c
  | k, s, h => by
    rcases Int.lt_or_le (index s [c]) 0 with hi | hi
    · have h1 : index s [c] = -1 := by have := index_ge s [c]; omega
      rw [splitL_miss (by rw [← index_one]; exact h1)]
      cases k with
      | zero => rfl
      | succ k => unfold splitK; rw [if_pos (by rw [h1]; rfl)]
    · obtain ⟨i, hi⟩ : ∃ i : Nat, index s [c] = i := ⟨(index s [c]).toNat, by omega⟩
      have hs := splitL_hit (c := c) (s := s) (i := i) (by rw [← index_one]; exact hi)
      have hl : 0 < (splitL (s.drop (i + 1)) c).length := List.length_pos_iff.2 (splitL_ne c _)
      rw [hs] at h ⊢
      simp only [List.length_cons] at h
      match k, h with
      | 0, h => omega
      | k + 1, h =>
        have hne : ¬ (index s [c] == -1) = true := by rw [hi]; simp
        unfold splitK
        rw [if_neg hne, hi]
        simp only [List.length_cons, List.length_nil, Nat.zero_add, Int.toNat_natCast, Nat.add_zero]
        rw [splitK_row c k (s.drop (i + 1)) (by omega)]
theorem splitB_row (c : UInt8) (k : Nat) (s : ByteArray) (h : (splitL s.data.toList c).length ≤ k + 1) : splitB ⟨#[c]⟩ 0 k s = splitS s c := by
  have h1 := splitB_data ⟨#[c]⟩ 0 k s
  have h2 := splitK_row c k s.data.toList h
  unfold splitS
  rw [← h2, ← show (⟨#[c]⟩ : ByteArray).data.toList = [c] from rfl, ← h1, List.map_map]
  conv => lhs; rw [← List.map_id (splitB ⟨#[c]⟩ 0 k s)]
  apply List.map_congr_left
  intro x _
  rfl
/-- The text of an attribute without its blank. -/
def attrL (a : Atr) : List UInt8 := a.name.data.toList ++ 58 :: ((modeW a.mode).data.toList ++ 58 :: ((typeW a.type).data.toList ++ if a.circ then [33] else []))
theorem fmtA_data (a : Atr) : (fmtA a).data.toList = 32 :: attrL a := by
  unfold fmtA attrL
  cases a.circ <;> simp
theorem foldA_data : ∀ (l : List Atr) (o : ByteArray), (l.foldl (fun o a => o ++ fmtA a) o).data.toList = o.data.toList ++ (l.map (fun a => 32 :: attrL a)).flatten
  | [], o => by simp
  | a :: l, o => by
    rw [List.foldl_cons, foldA_data l]
    simp [fmtA_data]
def symW : List UInt8 := [115, 121, 109, 98, 111, 108]
theorem symT_data (x : Sym) : (symT x x.attrs.length).data.toList = symW ++ ((x.name.data.toList :: x.attrs.map attrL).map (fun q => 32 :: q)).flatten := by
  unfold symT
  rw [foldA_data, List.take_length]
  simp [symW, Function.comp_def]
theorem ldg_not {b : UInt8} (h : ldg b = true) : b ≠ 32 ∧ b ≠ 58 ∧ b ≠ 33 := by
  refine ⟨?_, ?_, ?_⟩ <;> (rintro rfl; revert h; decide)
theorem name_no {s : ByteArray} (h : validN s = true) {c : UInt8} (hc : c = 32 ∨ c = 58 ∨ c = 33) : c ∉ s.data.toList := by
  intro hm
  unfold validN shT at h
  simp only [Bool.and_eq_true, List.all_eq_true] at h
  have := ldg_not (h.1.1.1.2 c hm)
  rcases hc with rfl | rfl | rfl
  · exact this.1 rfl
  · exact this.2.1 rfl
  · exact this.2.2 rfl
theorem modeW_no {m : Int} {c : UInt8} (hc : c = 32 ∨ c = 58 ∨ c = 33) : c ∉ (modeW m).data.toList := by
  unfold modeW
  rcases hc with rfl | rfl | rfl <;> (repeat' split) <;> decide
theorem typeW_no {m : Int} {c : UInt8} (hc : c = 32 ∨ c = 58 ∨ c = 33) : c ∉ (typeW m).data.toList := by
  unfold typeW
  rcases hc with rfl | rfl | rfl <;> (repeat' split) <;> decide
theorem vA_name {a : Atr} (h : vA a = true) : validN a.name = true := by
  unfold vA validA at h
  simp only [Bool.and_eq_true] at h
  exact h.1.1.1
theorem attrL_no {a : Atr} (h : vA a = true) : (32 : UInt8) ∉ attrL a := by
  unfold attrL
  intro hm
  simp only [List.mem_append, List.mem_cons] at hm
  rcases hm with hm | hm | hm | hm | hm | hm
  · exact name_no (vA_name h) (.inl rfl) hm
  · revert hm; decide
  · exact modeW_no (.inl rfl) hm
  · revert hm; decide
  · exact typeW_no (.inl rfl) hm
  · revert hm
    cases a.circ <;> decide
theorem attrL_split {a : Atr} (h : vA a = true) : splitL (attrL a) 58 = [a.name.data.toList, (modeW a.mode).data.toList, (typeW a.type).data.toList ++ if a.circ then [33] else []] := by
  unfold attrL
  rw [splitL_cut _ (name_no (vA_name h) (.inr (.inl rfl))), splitL_cut _ (modeW_no (.inr (.inl rfl))), splitL_one]
  intro hm
  rcases List.mem_append.1 hm with hm | hm
  · exact typeW_no (.inr (.inl rfl)) hm
  · revert hm
    cases a.circ <;> decide
theorem symT_split {x : Sym} (h : validY x = true) : splitL (symT x x.attrs.length).data.toList 32 = symW :: x.name.data.toList :: x.attrs.map attrL := by
  unfold validY at h
  simp only [Bool.and_eq_true] at h
  rw [symT_data]
  refine splitL_row (by decide) fun q hq => ?_
  rcases List.mem_cons.1 hq with rfl | hq
  · exact name_no h.2.1 (.inl rfl)
  · obtain ⟨a, ha, rfl⟩ := List.mem_map.1 hq
    exact attrL_no (List.all_eq_true.1 h.1 a ha)
/-! What each side reads. -/
def modesS : List ByteArray := [⟨#[]⟩, ⟨#[105, 110, 104]⟩, ⟨#[115, 121, 110]⟩, ⟨#[99, 111, 108]⟩]
def typesS : List ByteArray := [⟨#[]⟩, ⟨#[110, 117, 109]⟩, ⟨#[115, 101, 116]⟩, ⟨#[98, 111, 111, 108]⟩, ⟨#[110, 111, 100, 101]⟩]
def modesI : List ByteArray := [⟨#[105, 110, 104]⟩, ⟨#[115, 121, 110]⟩, ⟨#[99, 111, 108]⟩]
def typesI : List ByteArray := [⟨#[110, 117, 109]⟩, ⟨#[115, 101, 116]⟩, ⟨#[98, 111, 111, 108]⟩, ⟨#[110, 111, 100, 101]⟩]
def zeroA : Atr := ⟨⟨#[]⟩, 0, 0, false⟩
/-- The reference's attribute of a word. -/
def attP (p0 p1 p2 : List UInt8) : Atr :=
  if p2.getLast? = some 33 then ⟨toB p0, idxS typesS (toB p2.dropLast), idxS modesS (toB p1), true⟩ else ⟨toB p0, idxS typesS (toB p2), idxS modesS (toB p1), false⟩
def attS (w : List UInt8) : Atr := match splitL w 58 with
  | [p0, p1, p2] => attP p0 p1 p2
  | _ => zeroA
/-- The program's attribute of a word. -/
def attQ (p0 p1 p2 : ByteArray) : Atr := ⟨p0, 1 + idxOfS typesI (⟨(trimSuffix p2.data.toList [33]).toArray⟩), 1 + idxOfS modesI p1, hasSuffix p2.data.toList [33]⟩
def prtI (w : ByteArray) : List ByteArray := splitB ⟨#[58]⟩ 0 (min 3 (w.size + 1) - 1) w ++ [⟨#[]⟩, ⟨#[]⟩]
def attI (w : ByteArray) : Atr := attQ ((prtI w).getD 0 ⟨#[]⟩) ((prtI w).getD 1 ⟨#[]⟩) ((prtI w).getD 2 ⟨#[]⟩)
theorem toB_data (x : ByteArray) : toB x.data.toList = x := by unfold toB; apply ByteArray.ext; simp
theorem toB_data' (l : List UInt8) : (toB l).data.toList = l := by unfold toB; simp
theorem modesS_at {m : Int} (h : 1 ≤ m ∧ m ≤ 3) : idxS modesS (modeW m) = m := by
  have : m = 1 ∨ m = 2 ∨ m = 3 := by omega
  rcases this with rfl | rfl | rfl <;> simp [idxS, modesS, modeW, ByteArray.toList_eq, List.findIdx?_cons]
theorem typesS_at {m : Int} (h : 1 ≤ m ∧ m ≤ 4) : idxS typesS (typeW m) = m := by
  have : m = 1 ∨ m = 2 ∨ m = 3 ∨ m = 4 := by omega
  rcases this with rfl | rfl | rfl | rfl <;> simp [idxS, typesS, typeW, ByteArray.toList_eq, List.findIdx?_cons]
theorem modesI_at {m : Int} (h : 1 ≤ m ∧ m ≤ 3) : 1 + idxOfS modesI (modeW m) = m := by
  have : m = 1 ∨ m = 2 ∨ m = 3 := by omega
  rcases this with rfl | rfl | rfl <;> simp [idxOfS, idxFromS, modesI, modeW]
theorem typesI_at {m : Int} (h : 1 ≤ m ∧ m ≤ 4) : 1 + idxOfS typesI (typeW m) = m := by
  have : m = 1 ∨ m = 2 ∨ m = 3 ∨ m = 4 := by omega
  rcases this with rfl | rfl | rfl | rfl <;> simp [idxOfS, idxFromS, typesI, typeW]
theorem typeW_last {m : Int} : (typeW m).data.toList.getLast? ≠ some 33 := fun h => by
  have h2 := List.mem_of_getLast? h
  exact typeW_no (.inr (.inr rfl)) h2
theorem attS_fmt {a : Atr} (h : vA a = true) : attS (attrL a) = a := by
  have hp := vA_parts h
  unfold attS
  rw [attrL_split h]
  simp only
  unfold attP
  obtain ⟨n, t, m, c⟩ := a
  simp only at hp ⊢
  cases c
  · simp only [Bool.false_eq_true, if_false, List.append_nil]
    rw [if_neg typeW_last, toB_data, toB_data, toB_data, modesS_at ⟨hp.2.1, hp.2.2.1⟩, typesS_at ⟨hp.2.2.2.1, hp.2.2.2.2⟩]
  · simp only [if_true]
    rw [if_pos (by simp), List.dropLast_concat, toB_data, toB_data, toB_data, modesS_at ⟨hp.2.1, hp.2.2.1⟩, typesS_at ⟨hp.2.2.2.1, hp.2.2.2.2⟩]
theorem attI_fmt {a : Atr} (h : vA a = true) : attI (toB (attrL a)) = a := by
  have hp := vA_parts h
  have hs : prtI (toB (attrL a)) = [a.name, modeW a.mode, toB ((typeW a.type).data.toList ++ if a.circ then [33] else [])] ++ [⟨#[]⟩, ⟨#[]⟩] := by
    have h1 := attrL_split h
    have h2 := splitL_len 58 (attrL a)
    rw [h1] at h2
    simp only [List.length_cons, List.length_nil] at h2
    have hz : (toB (attrL a)).size = (attrL a).length := by simp [toB, ByteArray.size]
    unfold prtI
    rw [splitB_row 58 _ _ (by rw [toB_data', h1]; simp only [List.length_cons, List.length_nil]; omega)]
    unfold splitS
    rw [toB_data', h1]
    simp only [List.map_cons, List.map_nil, toB_data]
  unfold attI
  rw [hs]
  show attQ a.name (modeW a.mode) (toB ((typeW a.type).data.toList ++ if a.circ then [33] else [])) = a
  unfold attQ
  rw [toB_data', modesI_at ⟨hp.2.1, hp.2.2.1⟩]
  have ht : hasSuffix ((typeW a.type).data.toList ++ if a.circ then [33] else []) [33] = a.circ ∧ trimSuffix ((typeW a.type).data.toList ++ if a.circ then [33] else []) [33] = (typeW a.type).data.toList := by
    have : a.type = 1 ∨ a.type = 2 ∨ a.type = 3 ∨ a.type = 4 := by omega
    rcases this with e | e | e | e <;> rw [e] <;> cases a.circ <;> decide
  rw [ht.1, ht.2]
  have e2 : (⟨(typeW a.type).data.toList.toArray⟩ : ByteArray) = typeW a.type := toB_data _
  rw [e2, typesI_at ⟨hp.2.2.2.1, hp.2.2.2.2⟩]
end Go.Proofs.YtilndebjnibgjaaDoor
