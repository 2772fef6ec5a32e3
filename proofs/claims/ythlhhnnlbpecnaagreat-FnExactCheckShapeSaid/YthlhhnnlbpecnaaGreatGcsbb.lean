/- Several texts of one proof in one file: slices.Compact at occurrences walked. Contracts of library functions that this seat calls, laid at the program by the kit's tool. The gathered uses sorted and taken once each: the library's sort and Compact at occurrences; AttributeUses, the program's side. Conditions: each theorem names its own. -/
import Derived.Test.YthlhhnnlbpecnaaGreatGcsba
import Derived.Shelf.SlGeneric
import Derived.Ground.SlsfProg
import Derived.Shelf.SlSortCmp.NoneTotal
import Derived.Test.YthlhhnnlbpecnaaGreatProg

/- slices.Compact at occurrences walked. Conditions: at most 2^20 of them. -/
namespace Go.Proofs.YthlhhnnlbpecnaaGreat
set_option linter.unusedSimpArgs false
set_option linter.unusedVariables false
set_option maxRecDepth 100000
open Go.RowKit Go.WideShapes
open Go.Lib hiding intOf
set_option linter.unusedVariables false

set_option maxRecDepth 100000 in
set_option maxHeartbeats 4000000 in
theorem t_Compact (g cap : Nat) (d : Array Occ) (w : World) (h : RowO w g d) (hsz : d.size ≤ 2097152) (hcap : d.size ≤ cap) (hm : cap ≤ 9223372036854775807) :
    Calls Tryz.prog 93 #[.slice (some ⟨g, 0, none⟩) d.size cap] w fun e w' => e = .returned (.slice (some ⟨g, 0, none⟩) (compactUpTo d d.size).length cap) ∧ w.grownBy w' (some g) ∧
      ∃ cur : Array Value, w'.heap[g]? = some (.cells cur 81 (0, 0)) ∧ ∀ j x, (compactUpTo d d.size)[j]? = some x → cur[j * 2]? = some (.int .i64 x.pos) ∧ cur[j * 2 + 1]? = some (.string x.name) := by
  have hg0 : w.grownBy w (some g) := ⟨rfl, rfl, rfl, Nat.le_refl _, fun _ _ _ => rfl⟩
  -- all kept
  have HA : Hid (∀ w' : World, w.grownBy w' (some g) → RowO w' g d → (∀ j, j < d.size → keeps d j = true) → (compactUpTo d d.size).length = d.size ∧ ∃ cur : Array Value, w'.heap[g]? = some (.cells cur 81 (0, 0)) ∧ ∀ j x, (compactUpTo d d.size)[j]? = some x → cur[j * 2]? = some (.int .i64 x.pos) ∧ cur[j * 2 + 1]? = some (.string x.name)) := hide fun w' _ hR hall => by
    have e : compactUpTo d d.size = d.toList := by rw [compactUpTo_all d _ hall, range_map_get]
    rw [e]
    obtain ⟨cur, h1, h2, h3⟩ := hR
    refine ⟨by simp, cur, h1, fun j x hj => ?_⟩
    rw [Array.getElem?_toList] at hj
    obtain ⟨hlt, hx⟩ := Array.getElem?_eq_some_iff.1 hj
    have := h3 j hlt
    rwa [getElem!_pos d j hlt, hx] at this
  have HR := hide h
  have Hg0 := hide hg0
  clear h hg0
  by_cases h2 : d.size < 2
  · have h2i : (d.size : Int) < 2 := by omega
    go_enter Tryz.func93, Tryz.ntmps93
    go_wp2_with fail
    go_ret
    obtain ⟨e1, e2⟩ := HA.out w Hg0.out HR.out (fun j hj => keeps_lt_one d j (by omega))
    exact ⟨by rw [e1]; rfl, Hg0.out, e2⟩
  · have h2i : ¬ (d.size : Int) < 2 := by omega
    go_enter Tryz.func93, Tryz.ntmps93
    go_wp2_with fail
    go_loopw [3] (fun i wr => ∃ k : Nat, 1 ≤ k ∧ k ≤ d.size ∧ i = .int .i64 k ∧ Hid (∀ j, j < k → keeps d j = true) ∧ Hid (w.grownBy wr (some g)) ∧ Hid (RowO wr g d)) (fun i _ => d.size - (intOf i).toNat)
    case atStart => exact ⟨1, Nat.le_refl _, by omega, rfl, hide (keeps_lt_one d), Hg0, HR⟩
    case round =>
      obtain ⟨k, hk1, hk, rfl, Hall, Hg, Hr⟩ := hrel
      by_cases hlt : k < d.size
      · obtain ⟨c1, d1⟩ := Hr.out.cell hlt
        obtain ⟨c0, d0⟩ := Hr.out.cell (show k - 1 < d.size by omega)
        have hki : (k : Int) < (d.size : Int) := by omega
        have hk0 : (0 : Int) ≤ (k : Int) := by omega
        have hkm0 : (0 : Int) ≤ (k : Int) - 1 := by omega
        have hkm1 : (k : Int) - 1 < (d.size : Int) := by omega
        generalize hx : d[k]! = x at c1 d1
        generalize hy : d[k - 1]! = y at c0 d0
        have Hx := hide hx
        have Hy := hide hy
        clear hx hy
        by_cases hdup : x = y
        · have hE := eqlO x y true (by simp [hdup])
          have Hk2 : Hid (keeps d k = false) := hide (keeps_neg (by omega) (by rw [Hx.out, Hy.out]; exact hdup))
          go_wp2_with fail
          go_quiet (fail)
          have hki2 : (k : Int) ≤ (d.size : Int) := by omega
          have hcapi : (d.size : Int) ≤ (cap : Int) := by omega
          obtain ⟨W1, hW1⟩ : ∃ W, W = wr := ⟨_, rfl⟩
          subst hW1
          have Hg1 : Hid (∀ q, w.grownBy (W1.drewN q) (some g)) := hide fun q => ⟨Hg.out.os, Hg.out.tape, Hg.out.output, Hg.out.size, Hg.out.block⟩
          have Hr1 : Hid (∀ q, RowO (W1.drewN q) g d) := hide fun q => Hr.out
          have Hio : Hid ((Tryz.prog.info? 81).map (·.size) = some 2) := hide (by kernel_rfl)
          clear c0 c1 d0 d1 hE
          go_wp2_with fail
          go_loopw [3, 5] (fun s3 s5 wr => ∃ (kk k2 : Nat) (dk : Array Occ), s3 = .int .i64 kk ∧ s5 = .int .i64 k2 ∧ 1 ≤ k2 ∧ k + k2 ≤ d.size ∧ Hid (w.grownBy wr (some g)) ∧ Hid (RowO wr g dk) ∧ Hid (CompInv d (k + k2) kk dk)) (fun _ s5 _ => d.size - (k + (intOf s5).toNat))
          case atStart => exact ⟨k, 1, d, rfl, rfl, Nat.le_refl _, by omega, hide (Hg1.out _), hide (Hr1.out _), hide (CompInv.start Hall.out Hk2.out)⟩
          case round =>
            obtain ⟨kk, k2, dk, rfl, rfl, h21, h2s, Hg2, Hr2, HI⟩ := hrel
            have hkk := HI.out.lt
            have hds := HI.out.size
            by_cases hlt2 : k + k2 < d.size
            · obtain ⟨c1, d1⟩ := Hr2.out.cell (show k + k2 < dk.size by omega)
              obtain ⟨c0, d0⟩ := Hr2.out.cell (show k + k2 - 1 < dk.size by omega)
              rw [HI.out.high (k + k2) (by omega)] at c1 d1
              rw [HI.out.high (k + k2 - 1) (by omega)] at c0 d0
              rw [show (k + k2) * 2 = k * 2 + k2 * 2 by omega] at c1 d1
              rw [show (k + k2 - 1) * 2 = k * 2 + (k2 - 1) * 2 by omega] at c0 d0
              generalize hx : d[k + k2]! = x2 at c1 d1
              generalize hy : d[k + k2 - 1]! = y2 at c0 d0
              have Hx2 := hide hx
              have Hy2 := hide hy
              have hn0 : (0 : Int) ≤ (k2 : Int) := by omega
              have hn1 : (k2 : Int) < ((d.size - k : Nat) : Int) := by omega
              have hn2 : (0 : Int) ≤ (k2 : Int) - 1 := by omega
              have hn3 : (k2 : Int) - 1 < ((d.size - k : Nat) : Int) := by omega
              have hn4 : (0 : Int) ≤ (kk : Int) := by omega
              have hn5 : (kk : Int) < (d.size : Int) := by omega
              have Hg3 : Hid (∀ q, w.grownBy (wr.drewN q) (some g)) := hide fun q => ⟨Hg2.out.os, Hg2.out.tape, Hg2.out.output, Hg2.out.size, Hg2.out.block⟩
              clear hx hy
              by_cases huv : x2 = y2
              · have hE2 : ∀ W, (binOp .neq 81 (.agg #[.int .i64 x2.pos, .string x2.name]) (.agg #[.int .i64 y2.pos, .string y2.name])).run Tryz.prog W = .ok (.bool false) W := neqO x2 y2 true (by simp [huv])
                have Hkp : Hid (keeps d (k + k2) = false) := hide (keeps_neg (by omega) (by rw [Hx2.out, Hy2.out]; exact huv))
                have Hr3 : Hid (∀ q, RowO (wr.drewN q) g dk) := hide fun q => Hr2.out
                go_wp2_with fail
                go_quiet (fail)
                clear c0 c1 d0 d1 hE2
                go_wp2_with fail
                go_roundw
                case rel => exact ⟨kk, k2 + 1, dk, rfl, by go_num, by omega, by omega, hide (Hg3.out _), hide (Hr3.out _), hide (HI.out.skip Hkp.out)⟩
                case measure => simp [intOf]; omega
              · have hE2 : ∀ W, (binOp .neq 81 (.agg #[.int .i64 x2.pos, .string x2.name]) (.agg #[.int .i64 y2.pos, .string y2.name])).run Tryz.prog W = .ok (.bool true) W := neqO x2 y2 false (by simp [huv])
                have Hkp : Hid (keeps d (k + k2) = true) := hide (keeps_pos (by rw [Hx2.out, Hy2.out]; exact huv))
                obtain ⟨cur, hcur, hcz, hcc⟩ := Hr2.out
                have Hcur : Hid (∀ q, (wr.drewN q).heap[g]? = some (.cells cur 81 (0, 0))) := hide fun q => hcur
                have Hcc := hide hcc
                have Hr3 : Hid (∀ q, RowO (wr.drewN q) g dk) := hide fun q => Hr2.out
                have hfit : kk * 2 + 2 ≤ cur.size := by omega
                have Hu := hide (show ∀ u ∈ ([.int .i64 x2.pos, .string x2.name] : List Value), u.oneCell' = true by simp [Value.oneCell'])
                clear hcur hcc
                go_wp2_with fail
                go_quiet (fail)
                go_wp2_with (refine wpList_store_at 81 (.tmp 51) (.tmp 50) (cs := [.int .i64 x2.pos, .string x2.name]) rfl Hio.out rfl rfl rfl rfl Hu.out (Hcur.out _) hfit ?_; intro WF hP; refine hold ?_)
                have HP := hide hP
                have hgF : w.grownBy WF (some g) := by
                  have h1 := Hg3.out
                  exact ⟨HP.out.os.trans (h1 _).os, HP.out.tape.trans (h1 _).tape, HP.out.output.trans (h1 _).output, by rw [HP.out.size]; exact (h1 _).size, fun q hq hne => (HP.out.far q (fun e => hne (by rw [e]))).trans ((h1 _).block q hq hne)⟩
                have HgF := hide hgF
                have HrF := hide (RowO.put (Hr3.out _) (Hcur.out _) hP)
                clear hP HP hgF c0 c1 d0 d1 hE2
                refine Hold.go ?_
                go_wp2_with fail
                go_roundw
                case rel => exact ⟨kk + 1, k2 + 1, dk.setIfInBounds kk x2, by go_num, by go_num, by omega, by omega, HgF, HrF, hide (by have h7 := HI.out.keep hlt2 Hkp.out; rw [Hx2.out] at h7; exact h7)⟩
                case measure => simp [intOf]; omega
            · have hend : k + k2 = d.size := by omega
              obtain ⟨cur, hcur, hcz, hcc⟩ := Hr2.out
              obtain ⟨WC, hcl, hgc, cur2, hcur2, hsame⟩ := run_clearO wr g (kk * 2) (d.size - kk) (cap - kk) cur hcur (by omega)
              have Hgc := hide hgc
              have Hcur2 := hide hcur2
              have Hsame := hide hsame
              have Hcc := hide hcc
              have hn4 : (0 : Int) ≤ (kk : Int) := by omega
              have hn5 : (kk : Int) ≤ (d.size : Int) := by omega
              have hn6 : (kk : Int) ≤ (cap : Int) := by omega
              have hn7 : ¬ (k2 : Int) < ((d.size - k : Nat) : Int) := by omega
              have hlen := HI.out.len
              have hlow := HI.out.low
              rw [hend] at hlen hlow
              have Hlen := hide hlen
              have Hlow := hide hlow
              clear hgc hcur2 hsame hcc hlen hlow hend
              go_wp2_with fail
              go_ret
              refine ⟨by rw [Hlen.out]; rfl, ⟨Hgc.out.os.trans Hg2.out.os, Hgc.out.tape.trans Hg2.out.tape, Hgc.out.output.trans Hg2.out.output, Nat.le_trans Hg2.out.size Hgc.out.size, fun q hq hne => (Hgc.out.block q (Nat.lt_of_lt_of_le hq Hg2.out.size) hne).trans (Hg2.out.block q hq hne)⟩, cur2, Hcur2.out, fun j x hj => ?_⟩
              have hjk : j < kk := by rw [← Hlen.out]; exact (List.getElem?_eq_some_iff.1 hj).1
              rw [Hlow.out j hjk] at hj
              obtain rfl := Option.some.inj hj
              rw [Hsame.out (j * 2) (by omega), Hsame.out (j * 2 + 1) (by omega)]
              exact Hcc.out j (by omega)
        · have hE := eqlO x y false (by simp [hdup])
          have Hk2 : Hid (keeps d k = true) := hide (keeps_pos (by rw [Hx.out, Hy.out]; exact hdup))
          go_wp2_with fail
          go_quiet (fail)
          go_wp2_with fail
          go_roundw
          case rel =>
            refine ⟨k + 1, by omega, by omega, by go_num, hide fun j hj => ?_, hide ⟨Hg.out.os, Hg.out.tape, Hg.out.output, Hg.out.size, Hg.out.block⟩, hide Hr.out⟩
            by_cases e : j = k
            · subst e
              exact Hk2.out
            · exact Hall.out j (by omega)
          case measure => simp [intOf]; omega
      · have hke : k = d.size := by omega
        subst hke
        go_wp2_with fail
        go_ret
        obtain ⟨e1, e2⟩ := HA.out wr Hg.out Hr.out Hall.out
        exact ⟨by rw [e1]; rfl, Hg.out, e2⟩
end Go.Proofs.YthlhhnnlbpecnaaGreat

/- Contracts of library functions that this seat calls, laid at the program by the kit's tool. Conditions: as each theorem names them. -/
namespace Go.Proofs
set_option linter.unusedSimpArgs false
set_option linter.unusedVariables false
open Go.Shelf
def Tryz.sortOcc_ren : Go.Shelf.Ren := ⟨fun | 6 => 91 | 15 => 121 | 14 => 120 | 28 => 150 | 29 => 151 | 20 => 142 | 21 => 143 | 22 => 144 | 23 => 145 | 24 => 146 | 25 => 147 | 26 => 148 | 27 => 149 | 46 => 163 | 47 => 164 | 48 => 165 | 49 => 166 | 50 => 167 | 57 => 173 | n => n, fun | 22 => 79 | 24 => 81 | 25 => 123 | 3 => 3 | 39 => 152 | 0 => 0 | 53 => 177 | 55 => 179 | 4 => 4 | 46 => 170 | 45 => 169 | 50 => 174 | 5 => 5 | 9 => 9 | 66 => 187 | 70 => 191 | 76 => 194 | 77 => 27 | n => n, fun | n => n⟩
theorem Tryz.sortOcc : Go.Proofs.SlLaysF0.n6 Tryz.prog Tryz.sortOcc_ren := {
  mixed := by kernel_rfl
  f6 := ⟨Tryz.f91.name, by decide, Tryz.func91.trans (congrArg some (by kernel_rfl))⟩
  f14 := ⟨Tryz.f120.name, by decide, Tryz.func120.trans (congrArg some (by kernel_rfl))⟩
  f15 := Tryz.func121.trans (congrArg some (by kernel_rfl))
  f20 := ⟨Tryz.f142.name, by decide, Tryz.func142.trans (congrArg some (by kernel_rfl))⟩
  f21 := ⟨Tryz.f143.name, by decide, Tryz.func143.trans (congrArg some (by kernel_rfl))⟩
  f22 := ⟨Tryz.f144.name, by decide, Tryz.func144.trans (congrArg some (by kernel_rfl))⟩
  f23 := ⟨Tryz.f145.name, by decide, Tryz.func145.trans (congrArg some (by kernel_rfl))⟩
  f24 := ⟨Tryz.f146.name, by decide, Tryz.func146.trans (congrArg some (by kernel_rfl))⟩
  f25 := ⟨Tryz.f147.name, by decide, Tryz.func147.trans (congrArg some (by kernel_rfl))⟩
  f26 := ⟨Tryz.f148.name, by decide, Tryz.func148.trans (congrArg some (by kernel_rfl))⟩
  f27 := ⟨Tryz.f149.name, by decide, Tryz.func149.trans (congrArg some (by kernel_rfl))⟩
  f28 := Tryz.func150.trans (congrArg some (by kernel_rfl))
  f29 := Tryz.func151.trans (congrArg some (by kernel_rfl))
  f46 := ⟨Tryz.f163.name, by decide, Tryz.func163.trans (congrArg some (by kernel_rfl))⟩
  f47 := Tryz.func164.trans (congrArg some (by kernel_rfl))
  f48 := Tryz.func165.trans (congrArg some (by kernel_rfl))
  f49 := ⟨Tryz.f166.name, by decide, Tryz.func166.trans (congrArg some (by kernel_rfl))⟩
  f50 := ⟨Tryz.f167.name, by decide, Tryz.func167.trans (congrArg some (by kernel_rfl))⟩
  f57 := ⟨Tryz.f173.name, by decide, Tryz.func173.trans (congrArg some (by kernel_rfl))⟩
  t0 := Tryz.underlying0
  a0 := Tryz.isAgg0
  z0 := Tryz.sizeOf0
  v0 := Tryz.zeroValue0
  t3 := Tryz.underlying3
  a3 := Tryz.isAgg3
  z3 := Tryz.sizeOf3
  v3 := Tryz.zeroValue3
  t4 := Tryz.underlying4
  a4 := Tryz.isAgg4
  z4 := Tryz.sizeOf4
  v4 := Tryz.zeroValue4
  t5 := Tryz.underlying5
  a5 := Tryz.isAgg5
  z5 := Tryz.sizeOf5
  v5 := Tryz.zeroValue5
  t9 := Tryz.underlying9
  a9 := Tryz.isAgg9
  z9 := Tryz.sizeOf9
  v9 := Tryz.zeroValue9
  t22 := Tryz.underlying79
  a22 := Tryz.isAgg79
  z22 := Tryz.sizeOf79
  v22 := Tryz.zeroValue79
  t25 := Tryz.underlying123
  a25 := Tryz.isAgg123
  z25 := Tryz.sizeOf123
  v25 := Tryz.zeroValue123
  t39 := Tryz.underlying152
  a39 := Tryz.isAgg152
  z39 := Tryz.sizeOf152
  v39 := Tryz.zeroValue152
  t45 := Tryz.underlying169
  a45 := Tryz.isAgg169
  z45 := Tryz.sizeOf169
  v45 := Tryz.zeroValue169
  t46 := Tryz.underlying170
  a46 := Tryz.isAgg170
  z46 := Tryz.sizeOf170
  v46 := Tryz.zeroValue170
  t50 := Tryz.underlying174
  a50 := Tryz.isAgg174
  z50 := Tryz.sizeOf174
  v50 := Tryz.zeroValue174
  t53 := Tryz.underlying177
  a53 := Tryz.isAgg177
  z53 := Tryz.sizeOf177
  v53 := Tryz.zeroValue177
  t55 := Tryz.underlying179
  a55 := Tryz.isAgg179
  z55 := Tryz.sizeOf179
  v55 := Tryz.zeroValue179
  t66 := Tryz.underlying187
  a66 := Tryz.isAgg187
  z66 := Tryz.sizeOf187
  v66 := Tryz.zeroValue187
  t70 := Tryz.underlying191
  a70 := Tryz.isAgg191
  z70 := Tryz.sizeOf191
  v70 := Tryz.zeroValue191
  t76 := Tryz.underlying194
  a76 := Tryz.isAgg194
  z76 := Tryz.sizeOf194
  v76 := Tryz.zeroValue194
  t77 := Tryz.underlying27
  a77 := Tryz.isAgg27
  z77 := Tryz.sizeOf27
  v77 := Tryz.zeroValue27 }
end Go.Proofs

/- The gathered uses sorted and taken once each: the library's sort and Compact at occurrences; AttributeUses, the program's side. Conditions: at most 2^21 uses. -/
namespace Go.Proofs.YthlhhnnlbpecnaaGreat
set_option linter.unusedSimpArgs false
set_option linter.unusedVariables false
set_option maxRecDepth 100000
open Go.RowKit Go.WideShapes Go.Sort
set_option linter.unusedVariables false

def encO (x : Occ) : List Value := [.int .i64 x.pos, .string x.name]
def srt (xs : List Occ) : List Occ := xs.mergeSort fun x y => !(ltOf cmpO) y x
theorem ltO (x y : Occ) : ltOf cmpO x y = decide (occLt x y) := by
  unfold ltOf
  by_cases h : occLt x y
  · rw [decide_eq_true h, decide_eq_true ((cmpO_lt x y).2 h)]
  · rw [decide_eq_false h, decide_eq_false (fun q => h ((cmpO_lt x y).1 q))]
theorem swoO : SWO (ltOf cmpO) where
  irrefl x := by rw [ltO]; simpa using occ_irrefl x
  trans x y z h1 h2 := by
    rw [ltO] at *
    simp only [decide_eq_true_eq] at *
    exact occ_trans h1 h2
  ntrans x y z h1 h2 := by
    rw [ltO] at *
    simp only [decide_eq_false_iff_not] at *
    exact occ_le_trans h2 h1
theorem totO (x y : Occ) (h1 : ltOf cmpO x y = false) (h2 : ltOf cmpO y x = false) : x = y := by
  rw [ltO] at *
  simp only [decide_eq_false_iff_not] at *
  by_cases e : x = y
  · exact e
  · exact absurd (occ_tri x y h1 e) h2
theorem srt_once (xs : List Occ) : Lib.compact (srt xs) = sortO xs := sorted_onceO xs _ fun a b => by rw [ltO]
theorem srt_len (xs : List Occ) : (srt xs).length = xs.length := List.length_mergeSort xs
theorem rowO_sorted {w : World} {g n : Nat} {os : Array Obj} {d d' : Array Occ} (h : RowO w g d) (hs : d'.size = d.size) : RowO (sortWorldK encO 2 w g 0 n d' os) g d' := by
  obtain ⟨cur, hb, hz, _⟩ := h
  have hg : g < w.heap.size := blk_lt hb
  refine ⟨Go.Sort.putCells id 0 (flatK encO 2 d') cur, ?_, by simp [Go.Sort.putCells]; omega, fun j hj => ?_⟩
  · unfold sortWorldK putRowK
    rw [heap_grow_old _ _ (by simpa using hg)]
    simp [putRow, mapBlock, Sort.ahead, Array.getElem?_modify, hb, onCells]
  · have hget : ∀ t, t < d'.size * 2 → (Go.Sort.putCells id 0 (flatK encO 2 d') cur)[t]? = some ((encO d'[t / 2]!)[t % 2]!) := fun t ht => by
      have h1 : t < cur.size := by omega
      have h2 : t < (flatK encO 2 d').size := by rw [size_flatK]; exact ht
      unfold Go.Sort.putCells
      rw [Array.getElem?_mapIdx, Array.getElem?_eq_getElem h1]
      simp only [Option.map_some, Nat.zero_le, Nat.zero_add, true_and, Nat.sub_zero, id]
      rw [if_pos h2, get_flatK _ _ _ _ ht]
    have e1 := hget (j * 2) (by omega)
    have e2 := hget (j * 2 + 1) (by omega)
    rw [show j * 2 / 2 = j by omega, show j * 2 % 2 = 0 by omega] at e1
    rw [show (j * 2 + 1) / 2 = j by omega, show (j * 2 + 1) % 2 = 1 by omega] at e2
    exact ⟨e1, e2⟩
theorem grown_sorted {w : World} {g n : Nat} {os : Array Obj} (d : Array Occ) : w.grownBy (sortWorldK encO 2 w g 0 n d os) (some g) := by
  unfold sortWorldK putRowK
  refine ⟨rfl, rfl, rfl, by simp, fun k hk hne => ?_⟩
  rw [heap_grow_old _ _ (by simpa using hk)]
  have : g ≠ k := fun e => hne (by rw [e])
  simp [putRow, mapBlock, Sort.ahead, Array.getElem?_modify, this]
theorem holdsO {w : World} {g : Nat} {d : Array Occ} (h : RowO w g d) : HoldsK encO 2 w g 0 d := by
  intro t ht
  rw [size_flatK] at ht
  rw [get_flatK _ _ _ _ ht, Nat.zero_add]
  obtain ⟨cur, hb, hz, h3⟩ := h
  refine ⟨?_, frozen_of_row _ _ _ _ _ hb⟩
  obtain ⟨e1, e2⟩ := h3 (t / 2) (by omega)
  rw [cell_of_row _ _ _ _ _ _ hb]
  rcases Nat.mod_two_eq_zero_or_one t with e | e
  · rw [e]
    rw [show t / 2 * 2 = t by omega] at e1
    exact e1
  · rw [e]
    rw [show t / 2 * 2 + 1 = t by omega] at e2
    exact e2
theorem t_SortO (g cap : Nat) (xs : List Occ) (w : World) (h : RowO w g xs.toArray) (hn : xs.length ≤ 2097152) :
    Calls Tryz.prog 91 #[.slice (some ⟨g, 0, none⟩) xs.length cap, .func (.func 92) #[] #[]] w fun e w' => e = .returned (.tuple #[]) ∧ w.grownBy w' (some g) ∧ RowO w' g (srt xs).toArray := by
  have hblk : g < w.heap.size := by
    obtain ⟨cur, hb, _⟩ := h
    exact blk_lt hb
  have eg : ∀ args w, (callFunc 92 args).run Tryz.prog w = .ok (.enter 92 args) w := enters_of Tryz.func92 (by kernel_rfl) rfl
  have hcmp : CmpLays Tryz.prog 92 #[] encO 2 cmpO g 0 xs.toArray.size w := fun m os dk _ x y => t_cmpO x y _
  have hcon := AnyQ.slices_SortFunc_total Tryz.sortOcc 2 Tryz.isAgg81 Tryz.sizeOf81 encO (fun _ => rfl) (fun x v hv => by simp [encO] at hv; rcases hv with rfl | rfl <;> rfl) cmpO swoO 92 #[] g 0 cap xs.toArray w eg hcmp (holdsO h) hblk (by simp; omega) totO
  change Calls Tryz.prog 91 _ _ _ at hcon
  rw [show xs.toArray.size = xs.length by simp] at hcon
  refine hcon.mono ?_
  rintro e w' ⟨he, n, os, rfl⟩
  exact ⟨he, grown_sorted _, rowO_sorted h (by simp [List.length_mergeSort])⟩
theorem t_Sort0 (p : Option Addr) (cap : Nat) (w : World) :
    Calls Tryz.prog 91 #[.slice p 0 cap, .func (.func 92) #[] #[]] w fun e w' => e = .returned (.tuple #[]) ∧ w' = w :=
  AnyF.slices_SortFunc_none Tryz.sortOcc p cap _ w
theorem t_Compact0 (p : Option Addr) (cap : Nat) (w : World) :
    Calls Tryz.prog 93 #[.slice p 0 cap] w fun e w' => e = .returned (.slice p 0 cap) ∧ w' = w := by
  go_enter Tryz.func93, Tryz.ntmps93
  go_wp2_with fail
  go_ret
  exact ⟨rfl, rfl⟩
theorem ElL.occ {w : World} : ∀ {xs : List Occ} {cl : List Value} {F : List Nat}, ElL (OccR 0) w xs cl F → (∀ x ∈ xs, x.ok) ∧ ∀ j x, xs[j]? = some x → cl[j * 2]? = some (.int .i64 x.pos) ∧ cl[j * 2 + 1]? = some (.string x.name)
  | [], _, _, _ => ⟨fun x hx => (by cases hx), fun j x hx => (by simp at hx)⟩
  | y :: r, cl, F, h => by
    obtain ⟨cs, cr, F1, F2, rfl, rfl, h1, h2⟩ := h
    obtain ⟨i1, i2⟩ := ElL.occ h2
    obtain ⟨a, b, rfl⟩ := list2 h1.1
    refine ⟨fun x hx => ?_, fun j x hx => ?_⟩
    · rcases List.mem_cons.1 hx with rfl | hx
      · exact h1.2.1
      · exact i1 x hx
    · cases j with
      | zero =>
        obtain rfl := Option.some.inj hx
        exact ⟨h1.2.2.1, h1.2.2.2.1⟩
      | succ j =>
        have h3 := i2 j x (by simpa using hx)
        rw [show (j + 1) * 2 = j * 2 + 1 + 1 by omega, show j * 2 + 1 + 1 + 1 = (j * 2 + 1) + 1 + 1 by omega]
        exact h3
theorem ElR.of_occ {D : Nat} {w : World} {b : Nat} : ∀ {xs : List Occ} {off : Nat}, (∀ x ∈ xs, x.ok) → (∀ j x, xs[j]? = some x → w.cell? ⟨b, off + j * 2, none⟩ = some (.int .i64 x.pos) ∧ w.cell? ⟨b, off + j * 2 + 1, none⟩ = some (.string x.name)) → ElR 2 (OccR D) w b off xs []
  | [], _, _, _ => rfl
  | y :: r, off, hok, h => by
    obtain ⟨h1, h2⟩ := h 0 y rfl
    refine ⟨[.int .i64 y.pos, .string y.name], [], [], rfl, fun i u hu => ?_, ⟨rfl, hok y (by simp), rfl, rfl, rfl⟩, ElR.of_occ (fun x hx => hok x (by simp [hx])) fun j x hx => ?_⟩
    · rcases i with _ | _ | i
      · obtain rfl := Option.some.inj hu
        simpa using h1
      · obtain rfl := Option.some.inj hu
        simpa using h2
      · simp at hu
    · have h3 := h (j + 1) x (by simpa using hx)
      rwa [show off + (j + 1) * 2 = off + 2 + j * 2 by omega] at h3
/-- What is gathered, sorted, taken once. -/
theorem OwnS.rowO {B : Nat} {w : World} {xs : List Occ} {g off n cap : Nat} (h : OwnS 2 (OccR 0) B 81 w xs (.slice (some ⟨g, off, none⟩) n cap) []) : off = 0 ∧ RowO w g xs.toArray ∧ (∀ x ∈ xs, x.ok) ∧ B ≤ g := by
  obtain ⟨⟨cl, ⟨h1, h2⟩, hel⟩, _, _⟩ := h
  obtain ⟨i1, i2⟩ := hel.occ
  rcases h2 with ⟨h2, _⟩ | ⟨g', cap', cur, hv, hB, hb, hn, hm, hc, ht⟩
  · cases h2
  · injection hv with hv1 hv2 hv3
    injection hv1 with hv1
    injection hv1 with hv1 hv4
    subst hv1 hv4
    refine ⟨rfl, ⟨cur, hb, by rw [hc]; simp; omega, fun j hj => ?_⟩, i1, hB⟩
    have hj' : j < xs.length := by simpa using hj
    obtain ⟨e1, e2⟩ := i2 j xs[j] (List.getElem?_eq_getElem hj')
    have hx : (xs.toArray)[j]! = xs[j] := by rw [List.getElem!_toArray, getElem!_pos xs j hj']
    rw [hx]
    rw [← ht, List.getElem?_take_of_lt (by omega), Array.getElem?_toList] at e1 e2
    exact ⟨e1, e2⟩
end Go.Proofs.YthlhhnnlbpecnaaGreat
