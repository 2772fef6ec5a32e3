/- Drawing: what the reference's generator hands out lies in known bounds, and it writes to its own cursor alone. Conditions: the code is at most 2^20 bytes. -/
import Derived.Test.YtaihdnlpdibkoaaKit
import Derived.Test.YtaihdnlpdibkoaaRows
import Derived.WalkLawsBesides
import Derived.WalkSpells
import Derived.Deep.QuietTactic
import Derived.BigQuiet
import Derived.Laws.Bits64
import Derived.Laws.BitsAllLaws
namespace Go.Proofs.Ytaihdnlpdibkoaa
set_option maxRecDepth 100000
open Go.RowKit

theorem bits_255 (v : Int) : bits .and .i64 v 255 = v % 256 := by
  show IntKind.i64.wrap ((BitVec.ofInt 64 v &&& BitVec.ofInt 64 255).toNat : Int) = _
  rw [BitVec.toNat_and, BitVec.toNat_ofInt, BitVec.toNat_ofInt, IntKind.wrap_i64]
  rw [show ((255 : Int) % ((2 : Nat) ^ 64 : Nat)).toNat = 2 ^ 8 - 1 from rfl, Nat.and_two_pow_sub_one_eq_mod]
  omega
theorem bits_30 (v : Int) : bits .and .i64 v 1073741823 = v % 1073741824 := by
  show IntKind.i64.wrap ((BitVec.ofInt 64 v &&& BitVec.ofInt 64 1073741823).toNat : Int) = _
  rw [BitVec.toNat_and, BitVec.toNat_ofInt, BitVec.toNat_ofInt, IntKind.wrap_i64]
  rw [show ((1073741823 : Int) % ((2 : Nat) ^ 64 : Nat)).toNat = 2 ^ 30 - 1 from rfl, Nat.and_two_pow_sub_one_eq_mod]
  omega

/-- The cursor in block b, over a code that lies below it. -/
def Cur (w : World) (b : Nat) : Prop := ∃ (A : Option Addr) (n c : Nat) (zs : List Int) (i : Nat) (h : Int), w.heap[b]? = some (.cells #[.slice A n c, .int .i64 i, .int .i64 h] 134 (0, 0)) ∧ i ≤ n ∧ n ≤ 1048576 ∧ Rd w b A n (zs.map (Value.int .u8)) ∧ (∀ z ∈ zs, (0 : Int) ≤ z ∧ z < 256)
/-- What a drawing call leaves: an int within bounds; the cursor; nothing else of the old memory is turned. -/
def Drawn (lo hi : Int) (b : Nat) (w : World) (e : Ending) (w' : World) : Prop := ∃ x : Int, e = .returned (.int .i64 x) ∧ lo ≤ x ∧ x ≤ hi ∧ Cur w' b ∧ w.grownBy w' (some b)

theorem new_end {A : Option Addr} {n c : Nat} {zs : List Int} {w : World} (hr : Rd w w.heap.size A n (zs.map (Value.int .u8))) (hz : ∀ z ∈ zs, (Lit.int .u8 z).wf = true) (hn : n ≤ 1048576) (x : Int) :
    Ending.returned (.pointer (some ⟨w.heap.size, 0, none⟩)) = Ending.returned (.pointer (some ⟨w.heap.size, 0, none⟩)) ∧ Cur (w.alloc (.cells #[.slice A n c, .int .i64 0, .int .i64 x] 134)) w.heap.size ∧
      Below w.heap.size w (w.alloc (.cells #[.slice A n c, .int .i64 0, .int .i64 x] 134)) ∧ w.heap.size < (w.alloc (.cells #[.slice A n c, .int .i64 0, .int .i64 x] 134)).heap.size :=
  ⟨rfl, ⟨A, n, c, zs, 0, x, heap_alloc_new w _, by omega, hn, hr.below ((Below.refl _ _).alloc (Nat.le_refl _) _), fun z h => by
    have := hz z h
    simp [Lit.wf, IntKind.min, IntKind.max, IntKind.signed, IntKind.bits] at this
    omega⟩, (Below.refl _ _).alloc (Nat.le_refl _) _, by simp⟩

set_option maxRecDepth 100000 in
theorem s_l1New (A : Option Addr) (n c : Nat) (zs : List Int) (w : World) (hr : Rd w w.heap.size A n (zs.map (Value.int .u8))) (hz : ∀ z ∈ zs, (Lit.int .u8 z).wf = true) (hn : n ≤ 1048576) :
    Calls Try.prog 68 #[.slice A n c] w fun e w' => e = .returned (.pointer (some ⟨w.heap.size, 0, none⟩)) ∧ Cur w' w.heap.size ∧ Below w.heap.size w w' ∧ w.heap.size < w'.heap.size := by
  go_enter Try.func68, Try.ntmps68
  go_wp2
  go_loop [3, 4] (fun h i => ∃ k : Nat, ∃ x : Int, k ≤ n ∧ i = .int .i64 k ∧ h = .int .i64 x ∧ 0 ≤ x ∧ x < 1073741824) (fun _ i => n - (intOf i).toNat)
  case atStart => exact ⟨0, 26583 + n, by omega, rfl, rfl, by omega, by omega⟩
  case round =>
    obtain ⟨k, x, hk, rfl, rfl, hx0, hx1⟩ := hrel
    by_cases h4 : k < 4000
    · by_cases hlt : k < n
      · obtain ⟨b, off, z, hA, hb, hx, hc⟩ := hr.get hlt
        subst hA
        have hzb := hz z (List.mem_of_getElem? hx)
        have hz0 : 0 ≤ z ∧ z < 256 := by simp [Lit.wf, IntKind.min, IntKind.max, IntKind.signed, IntKind.bits] at hzb; omega
        clear hx hzb
        go_wp2
        go_round
        case rel => exact ⟨k + 1, _, by omega, by go_num, rfl, by rw [bits_30]; omega, by rw [bits_30]; omega⟩
        case measure => simp [intOf]; omega
      · go_wp2
        go_ret
        exact new_end hr hz hn x
    · by_cases hlt : k < n
      all_goals
        go_wp2
        go_ret
        exact new_end hr hz hn x
theorem draw_end0 {b : Nat} {A : Option Addr} {n c : Nat} {zs : List Int} {i : Nat} {h H x : Int} {w : World} (hb : w.heap[b]? = some (.cells #[.slice A n c, .int .i64 i, .int .i64 h] 134 (0, 0)))
    (h1 : i ≤ n) (hn : n ≤ 1048576) (hr : Rd w b A n (zs.map (Value.int .u8))) (hz : ∀ z ∈ zs, (0 : Int) ≤ z ∧ z < 256) (hx : 0 ≤ x ∧ x < 256) (m m' : Nat) :
    Drawn 0 255 b w (.returned (.int .i64 x)) (((w.setCell ⟨b, 2, none⟩ (.int .i64 H)).drewN m).drewN m') := by
  refine ⟨x, rfl, hx.1, by omega, ⟨A, n, c, zs, i, H, ?_, h1, hn, ?_, hz⟩, ⟨rfl, rfl, rfl, ?_, ?_⟩⟩
  · exact heap_setCell_same w b 2 _ _ _ hb
  · exact hr.keep fun p hp => World.cell?_setCell_other w _ p _ (fun e => by subst e; simp at hp)
  · simp [World.setCell]
  · intro k hk hne
    exact heap_setCell_other w _ k _ (fun e => hne (by rw [e]))
theorem draw_end1 {b : Nat} {A : Option Addr} {n c : Nat} {zs : List Int} {i : Nat} {h H x : Int} {w : World} (hb : w.heap[b]? = some (.cells #[.slice A n c, .int .i64 i, .int .i64 h] 134 (0, 0)))
    (h1 : i < n) (hn : n ≤ 1048576) (hr : Rd w b A n (zs.map (Value.int .u8))) (hz : ∀ z ∈ zs, (0 : Int) ≤ z ∧ z < 256) (hx : 0 ≤ x ∧ x < 256) (m : Nat) :
    Drawn 0 255 b w (.returned (.int .i64 x)) (((w.setCell ⟨b, 2, none⟩ (.int .i64 H)).drewN m).setCell ⟨b, 1, none⟩ (.int .i64 ((i : Int) + 1))) := by
  have hb1 : (w.setCell ⟨b, 2, none⟩ (.int .i64 H)).heap[b]? = some (.cells #[.slice A n c, .int .i64 i, .int .i64 H] 134 (0, 0)) := heap_setCell_same w b 2 _ _ _ hb
  refine ⟨x, rfl, hx.1, by omega, ⟨A, n, c, zs, i + 1, H, ?_, by omega, hn, ?_, hz⟩, ⟨rfl, rfl, rfl, ?_, ?_⟩⟩
  · exact heap_setCell_same (w.setCell ⟨b, 2, none⟩ (.int .i64 H)) b 1 _ _ _ hb1
  · have hr1 : Rd (w.setCell ⟨b, 2, none⟩ (.int .i64 H)) b A n (zs.map (Value.int .u8)) := hr.keep fun p hp => World.cell?_setCell_other w _ p _ (fun e => by subst e; simp at hp)
    exact hr1.keep fun p hp => World.cell?_setCell_other (w.setCell ⟨b, 2, none⟩ (.int .i64 H)) _ p _ (fun e => by subst e; simp at hp)
  · simp [World.setCell]
  · intro k hk hne
    exact (heap_setCell_other (w.setCell ⟨b, 2, none⟩ (.int .i64 H)) _ k _ (fun e => hne (by rw [e]))).trans (heap_setCell_other w _ k _ (fun e => hne (by rw [e])))
theorem s_l1Byte0 (b : Nat) (A : Option Addr) (n c : Nat) (zs : List Int) (i : Nat) (h : Int) (w : World) (hb : w.heap[b]? = some (.cells #[.slice A n c, .int .i64 i, .int .i64 h] 134 (0, 0)))
    (h1 : i ≤ n) (hn : n ≤ 1048576) (hr : Rd w b A n (zs.map (Value.int .u8))) (hz : ∀ z ∈ zs, (0 : Int) ≤ z ∧ z < 256) :
    Calls Try.prog 130 #[.pointer (some ⟨b, 0, none⟩)] w (Drawn 0 255 b w) := by
  have c0 : w.cell? ⟨b, 0, none⟩ = some (.slice A n c) := cell_of_row _ _ 0 _ _ _ hb
  have c1 : w.cell? ⟨b, 1, none⟩ = some (.int .i64 i) := cell_of_row _ _ 1 _ _ _ hb
  have c2 : w.cell? ⟨b, 2, none⟩ = some (.int .i64 h) := cell_of_row _ _ 2 _ _ _ hb
  have f0 := frozen_of_row w b 0 _ _ hb
  have f1 := frozen_of_row w b 1 _ _ hb
  have f2 := frozen_of_row w b 2 _ _ hb
  have Hb := hide hb
  clear hb
  go_enter Try.func130, Try.ntmps130
  go_wp2
  generalize wrap64 (wrap64 (h * 6364136223846793005) + 1442695040888963407) = H
  go_quiet (fail)
  obtain ⟨x, hx⟩ : ∃ x, x = bits .and .i64 (bits .xor .i64 (H / 8589934592) (H / 35184372088832)) 255 := ⟨_, rfl⟩
  rw [← hx]
  have hx0 : 0 ≤ x ∧ x < 256 := by rw [hx, bits_255]; omega
  clear hx
  by_cases hlt : i < n
  · obtain ⟨bc, off, z, hA, hbc, hxz, hc⟩ := hr.get hlt
    subst hA
    have hzz := hz z (List.mem_of_getElem? hxz)
    have hcc : ∀ v, (w.setCell ⟨b, 2, none⟩ v).cell? ⟨bc, off + i, none⟩ = some (.int .u8 z) := fun v => (World.cell?_setCell_other w _ _ v (fun e => by injection e; omega)).trans hc
    clear hxz hc
    go_wp2
    go_quiet (fail)
    go_wp2
    go_quiet (fail)
    go_wp2
    go_ret
    exact draw_end1 (x := bits .and .i64 (x + z) 255) Hb.out hlt hn hr hz (by rw [bits_255]; omega) _
  · go_wp2
    go_quiet (fail)
    go_wp2
    go_ret
    exact draw_end0 Hb.out h1 hn hr hz hx0 _ _

theorem s_l1Byte {b : Nat} {w : World} (hc : Cur w b) : Calls Try.prog 130 #[.pointer (some ⟨b, 0, none⟩)] w (Drawn 0 255 b w) := by
  obtain ⟨A, n, c, zs, i, h, hb, h1, hn, hr, hz⟩ := hc
  exact s_l1Byte0 b A n c zs i h w hb h1 hn hr hz
theorem Drawn.mk {lo hi : Int} {b : Nat} {w : World} {x : Int} {w' : World} (h0 : lo ≤ x) (h1 : x ≤ hi) (hc : Cur w' b) (hg : w.grownBy w' (some b)) : Drawn lo hi b w (.returned (.int .i64 x)) w' := ⟨x, rfl, h0, h1, hc, hg⟩

/-- l1Below where at most one byte is drawn. -/
theorem s_l1Below {b : Nat} {w : World} (hc : Cur w b) (n : Int) (h0 : 1 ≤ n) (h1 : n ≤ 256) : Calls Try.prog 97 #[.pointer (some ⟨b, 0, none⟩), .int .i64 n] w (Drawn 0 (n - 1) b w) := by
  go_enter Try.func97, Try.ntmps97
  go_wp2_with (go_at_call 130; refine (s_l1Byte hc).mono ?_; rintro e w' ⟨x, rfl, hx0, hx1, hc1, hg1⟩)
  go_ret
  exact Drawn.mk (Int.emod_nonneg _ (by omega)) (by have := Int.emod_lt_of_pos x (show (0 : Int) < n by omega); omega) hc1 hg1
def DrawnB (b : Nat) (w : World) (e : Ending) (w' : World) : Prop := ∃ x : Bool, e = .returned (.bool x) ∧ Cur w' b ∧ w.grownBy w' (some b)
theorem s_l1Once {b : Nat} {w : World} (hc : Cur w b) (n : Int) (h0 : 1 ≤ n) (h1 : n ≤ 256) : Calls Try.prog 152 #[.pointer (some ⟨b, 0, none⟩), .int .i64 n] w (DrawnB b w) := by
  go_enter Try.func152, Try.ntmps152
  go_wp2_with (go_at_call 97; refine (s_l1Below hc n h0 h1).mono ?_; rintro e w' ⟨x, rfl, hx0, hx1, hc1, hg1⟩)
  go_ret
  exact ⟨_, rfl, hc1, hg1⟩
theorem pick_cell {b B bl off n : Nat} {zs : List Int} {w w' : World} (hr : Rd w B (some ⟨bl, off, none⟩) n (zs.map (Value.int .i64))) (hlt : bl < w.heap.size) (hne : bl ≠ b) (hg : w.grownBy w' (some b)) (x : Int) (h0 : 0 ≤ x) (h1 : x ≤ n - 1) :
    ∃ z, z ∈ zs ∧ w'.cell? ⟨bl, off + x.toNat, none⟩ = some (.int .i64 z) := by
  obtain ⟨bl', off', z, hA, _, hxz, hc⟩ := hr.get (k := x.toNat) (by omega)
  injection hA with hA
  injection hA with e1 e2 _
  subst e1 e2
  exact ⟨z, List.mem_of_getElem? hxz, (World.cell?_of_block (hg.block bl hlt (fun e => hne (by injection e)))).trans hc⟩
/-- One of a list of ints. -/
theorem s_l1PickInt {b : Nat} {w : World} (hc : Cur w b) (B : Nat) (A : Option Addr) (n c : Nat) (zs : List Int) (hr : Rd w B A n (zs.map (Value.int .i64))) (h0 : 1 ≤ n) (h1 : n ≤ 256)
    (hne : ∀ bl off, A = some ⟨bl, off, none⟩ → bl ≠ b) (lo hi : Int) (hz : ∀ z ∈ zs, lo ≤ z ∧ z ≤ hi) :
    Calls Try.prog 98 #[.pointer (some ⟨b, 0, none⟩), .slice A n c] w (Drawn lo hi b w) := by
  obtain ⟨bl, off, hA, hB, hcells⟩ := hr.2 (by omega)
  subst hA
  have hlt := cell_lt (hcells 0 _ (List.getElem?_eq_getElem (by have := hr.1; omega)))
  have hne' := hne bl off rfl
  go_enter Try.func98, Try.ntmps98
  go_wp2_with (go_at_call 97; refine (s_l1Below hc n (by omega) (by omega)).mono ?_; rintro e w' ⟨x, rfl, hx0, hx1, hc1, hg1⟩; obtain ⟨z, hzm, hcz⟩ := pick_cell hr hlt hne' hg1 x hx0 hx1)
  go_ret
  have hzb := hz z hzm
  exact Drawn.mk hzb.1 hzb.2 hc1 hg1

def Drawn2 (b : Nat) (w : World) (e : Ending) (w' : World) : Prop := ∃ x y : Int, e = .returned (.tuple #[.int .i64 x, .int .i64 y]) ∧ Below b w w'
def Drawn3 (b : Nat) (w : World) (e : Ending) (w' : World) : Prop := ∃ x y z : Int, e = .returned (.tuple #[.int .i64 x, .int .i64 y, .int .i64 z]) ∧ Below b w w'
theorem Cur.lt {w : World} {b : Nat} (h : Cur w b) : b < w.heap.size := by
  obtain ⟨A, n, c, zs, i, x, hb, _⟩ := h
  exact (Array.getElem?_eq_some_iff.1 hb).1
theorem Cur.below {w w' : World} {b : Nat} (h : Cur w b) (hb : Below w.heap.size w w') : Cur w' b := by
  have hlt := h.lt
  obtain ⟨A, n, c, zs, i, x, hh, h1, h2, hr, hz⟩ := h
  exact ⟨A, n, c, zs, i, x, (hb.block b hlt).trans hh, h1, h2, hr.keep fun p hp => hb.cell (by omega), hz⟩
theorem grown_below {w w1 w2 : World} {b : Nat} (h : Below w.heap.size w w1) (hg : w1.grownBy w2 (some b)) : w.grownBy w2 (some b) :=
  ⟨hg.os.trans h.os, hg.tape.trans h.tape, hg.output.trans h.output, Nat.le_trans h.size hg.size, fun k hk hne => (hg.block k (Nat.lt_of_lt_of_le hk h.size) hne).trans (h.block k hk)⟩
theorem grown_trans2 {w w1 w2 : World} {b : Nat} (h : w.grownBy w1 (some b)) (hg : w1.grownBy w2 (some b)) : w.grownBy w2 (some b) :=
  ⟨hg.os.trans h.os, hg.tape.trans h.tape, hg.output.trans h.output, Nat.le_trans h.size hg.size, fun k hk hne => (hg.block k (Nat.lt_of_lt_of_le hk h.size) hne).trans (h.block k hk hne)⟩
/-- Old memory below the cursor is as it was. -/
theorem below_grown {w w1 : World} {b : Nat} (h : w.grownBy w1 (some b)) (hb : b < w.heap.size) : Below b w w1 :=
  ⟨h.os, h.tape, h.output, h.size, fun k hk => h.block k (by omega) (fun e => by injection e; omega)⟩
/-- One of a list of ints that has just been laid. -/
theorem s_pickNew {b : Nat} {w : World} (hc : Cur w b) (zs : List Int) (lo hi : Int) (h0 : 1 ≤ zs.length) (h1 : zs.length ≤ 256) (hz : zs.all (fun z => decide (lo ≤ z ∧ z ≤ hi)) = true) :
    Calls Try.prog 98 #[.pointer (some ⟨b, 0, none⟩), .slice (some ⟨w.heap.size, 0, none⟩) zs.length zs.length] (w.alloc (.cells (zs.map (Value.int .i64)).toArray 3)) (Drawn lo hi b w) := by
  have hlt := hc.lt
  have hb : Below w.heap.size w (w.alloc (.cells (zs.map (Value.int .i64)).toArray 3)) := (Below.refl _ _).alloc (Nat.le_refl _) _
  have hn := Rd.new w 3 (zs.map (Value.int .i64))
  rw [List.length_map] at hn
  refine (s_l1PickInt (hc.below hb) _ _ _ _ zs hn h0 h1 (fun bl off e => by injection e with e; injection e with e1 _ _; omega) lo hi (fun z hzm => by simpa using List.all_eq_true.1 hz z hzm)).mono ?_
  rintro e w' ⟨x, rfl, hx0, hx1, hc1, hg⟩
  exact Drawn.mk hx0 hx1 hc1 (grown_below hb hg)

set_option maxRecDepth 100000 in
theorem s_l1BelowBig {b : Nat} {w : World} (hc : Cur w b) (n : Int) (h0 : 257 ≤ n) (h1 : n ≤ 1000000) : Calls Try.prog 97 #[.pointer (some ⟨b, 0, none⟩), .int .i64 n] w (Drawn 0 (n - 1) b w) := by
  go_enter Try.func97, Try.ntmps97
  go_wp2_with fail
  refine (s_l1Byte hc).mono ?_
  rintro e w1 ⟨x1, rfl, hx1, hy1, hc1, hg1⟩
  go_wp2_with fail
  refine (s_l1Byte hc1).mono ?_
  rintro e w2 ⟨x2, rfl, hx2, hy2, hc2, hg2⟩
  go_wp2_with fail
  refine (s_l1Byte hc2).mono ?_
  rintro e w3 ⟨x3, rfl, hx3, hy3, hc3, hg3⟩
  go_wp2_with fail
  refine (s_l1Byte hc3).mono ?_
  rintro e w4 ⟨x4, rfl, hx4, hy4, hc4, hg4⟩
  go_wp2_with fail
  go_ret
  exact Drawn.mk (Int.emod_nonneg _ (by omega)) (by have := Int.emod_lt_of_pos (x1 * 16777216 + x2 * 65536 + x3 * 256 + x4) (show (0 : Int) < n by omega); omega) hc4 (grown_trans2 (grown_trans2 (grown_trans2 hg1 hg2) hg3) hg4)

end Go.Proofs.Ytaihdnlpdibkoaa
