/- The law of SplitByte and Join: the plain part, and what is drawn for it. Conditions: the code is at most 2^20 bytes. -/
import Derived.Test.YtfeddokldidjeaaDoorSplitI
import Derived.Test.YtfeddokldidjeaaDoorDrawN
import Derived.Test.YtfeddokldidjeaaDoorJoin
namespace Go.Proofs.YtfeddokldidjeaaDoor
set_option maxRecDepth 100000
open Go.RowKit Go.Lib
set_option linter.unusedVariables false

theorem ic_cons (sep a b : List UInt8) (r : List (List UInt8)) : sep.intercalate (a :: b :: r) = a ++ sep ++ sep.intercalate (b :: r) := by
  simp [List.intercalate, List.intersperse]
theorem ic_glue (sep p h : List UInt8) (t : List (List UInt8)) : sep.intercalate ((p ++ h) :: t) = p ++ sep.intercalate (h :: t) := by
  cases t with
  | nil => simp [List.intercalate, List.intersperse]
  | cons a r => rw [ic_cons, ic_cons]; simp
theorem ic_split (c : UInt8) : ∀ l, [c].intercalate (splitL l c) = l
  | [] => by simp [splitL, List.intercalate, List.intersperse]
  | b :: r => by
    have ih := ic_split c r
    unfold splitL
    cases hs : splitL r c with
    | nil => exact absurd hs (splitL_ne c r)
    | cons a t =>
      rw [hs] at ih
      split
      · rename_i hb
        rw [ic_cons, ih, hb]
        rfl
      · show [c].intercalate (([b] ++ a) :: t) = _
        rw [ic_glue, ih]
        rfl
theorem join_split (s : ByteArray) (c : UInt8) : joinL (splitS s c) ⟨#[c]⟩ = s.data.toList := by
  unfold joinL splitS join
  rw [List.map_map]
  have h : (splitL s.data.toList c).map ((fun x : ByteArray => x.data.toList) ∘ toB) = splitL s.data.toList c := by
    conv => rhs; rw [← List.map_id (splitL s.data.toList c)]
    apply List.map_congr_left
    intro x _
    rfl
  rw [show (splitL s.data.toList c).map ((·.data.toList) ∘ toB) = splitL s.data.toList c from h]
  exact ic_split c _
theorem splitL_free (c : UInt8) : ∀ l, ∀ x ∈ splitL l c, c ∉ x
  | [], x, hx => by simp [splitL] at hx; subst hx; simp
  | b :: r, x, hx => by
    unfold splitL at hx
    split at hx
    · rcases List.mem_cons.1 hx with rfl | hx
      · simp
      · exact splitL_free c r x hx
    · rename_i hb
      cases hs : splitL r c with
      | nil => exact absurd hs (splitL_ne c r)
      | cons a t =>
        rw [hs] at hx
        rcases List.mem_cons.1 hx with rfl | hx
        · have := splitL_free c r a (by rw [hs]; simp)
          simp only [List.cons_append, List.nil_append, List.mem_cons, not_or]
          exact ⟨fun e => hb e.symm, this⟩
        · exact splitL_free c r x (by rw [hs]; simp [hx])
theorem splitL_one (c : UInt8) : ∀ l, c ∉ l → splitL l c = [l]
  | [], _ => rfl
  | b :: r, h => by
    simp only [List.mem_cons, not_or] at h
    unfold splitL
    rw [if_neg (fun e => h.1 e.symm), splitL_one c r h.2]
    rfl
theorem split_part {s x : ByteArray} {c : UInt8} (hx : x ∈ splitS s c) : (splitS x c).length = 1 := by
  obtain ⟨l, hl, rfl⟩ := List.mem_map.1 hx
  unfold splitS
  rw [List.length_map, show (toB l).data.toList = l from rfl, splitL_one c l (splitL_free c _ l hl)]
  rfl
set_option maxRecDepth 100000 in
theorem s_DrawSplitByte (A : Option Addr) (n c : Nat) (zs : List Int) (w : World) (hr : Rd w w.heap.size A n (zs.map (Value.int .u8))) (hz : ∀ z ∈ zs, (Lit.int .u8 z).wf = true) (hn : n ≤ 1048576) :
    Calls Tryd.prog 26 #[.slice A n c] w fun e w' => ∃ (s : ByteArray) (b : UInt8), e = .returned (.tuple #[.string s, .int .u8 (b.toNat : Int)]) ∧ s.size ≤ 32 ∧ Below w.heap.size w w' := by
  go_enter Tryd.func26, Tryd.ntmps26
  go_wp2_with fail
  refine (s_l1New A n c zs w hr hz hn).mono ?_
  rintro e w1 ⟨rfl, hc1, hb1, hl1⟩
  have hp := s_pickNewS hc1 [⟨#[]⟩, ⟨#[97]⟩, ⟨#[97, 44, 98]⟩, ⟨#[44]⟩, ⟨#[97, 44, 44, 98, 44]⟩, ⟨#[97, 10, 98, 10]⟩] (by decide) (by decide) (by decide)
  simp only [List.map_cons, List.map_nil, List.length_cons, List.length_nil] at hp
  have Hp := hide hp
  clear hp
  go_wp2_with (go_at_call 39; refine Calls.mono Hp.out ?_; rintro e w2 ⟨s, rfl, hs, hc2, hg2⟩
               have hp2 := s_pickNew hc2 [44, 10] 10 44 (by decide) (by decide) (by decide)
               simp only [List.map_cons, List.map_nil, List.length_cons, List.length_nil] at hp2
               have Hp2 := hide hp2
               clear hp2)
  refine Calls.mono Hp2.out ?_
  rintro e w3 ⟨y, rfl, hy0, hy1, hc3, hg3⟩
  go_wp2_with fail
  exact bodyPost_ret (v := .tuple #[.string s, .int .u8 y]) (by simp [results, Tryd.results26, go_sem]) rfl
    ⟨s, UInt8.ofNat y.toNat, by simp [UInt8.toNat_ofNat']; omega, hs, hb1.trans (below_grown (grown_trans2 hg2 hg3) hl1)⟩
end Go.Proofs.YtfeddokldidjeaaDoor
