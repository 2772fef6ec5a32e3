/- slices.Compact at occurrences walked. Conditions: at most 2^20 of them. -/
import Derived.Test.YtaihdnlpdibkoaaUseE
namespace Go.Proofs.Ytaihdnlpdibkoaa
set_option maxRecDepth 100000
open Go.RowKit Go.WideShapes
open Go.Lib hiding intOf
set_option linter.unusedVariables false

set_option maxRecDepth 100000 in
set_option maxHeartbeats 4000000 in
theorem t_Compact (g cap : Nat) (d : Array Occ) (w : World) (h : RowO w g d) (hsz : d.size ≤ 2097152) (hcap : d.size ≤ cap) (hm : cap ≤ 9223372036854775807) :
    Calls Try.prog 62 #[.slice (some ⟨g, 0, none⟩) d.size cap] w fun e w' => e = .returned (.slice (some ⟨g, 0, none⟩) (compactUpTo d d.size).length cap) ∧ w.grownBy w' (some g) ∧
      ∃ cur : Array Value, w'.heap[g]? = some (.cells cur 65 (0, 0)) ∧ ∀ j x, (compactUpTo d d.size)[j]? = some x → cur[j * 2]? = some (.int .i64 x.pos) ∧ cur[j * 2 + 1]? = some (.string x.name) := by
  have hg0 : w.grownBy w (some g) := ⟨rfl, rfl, rfl, Nat.le_refl _, fun _ _ _ => rfl⟩
  -- all kept
  have HA : Hid (∀ w' : World, w.grownBy w' (some g) → RowO w' g d → (∀ j, j < d.size → keeps d j = true) → (compactUpTo d d.size).length = d.size ∧ ∃ cur : Array Value, w'.heap[g]? = some (.cells cur 65 (0, 0)) ∧ ∀ j x, (compactUpTo d d.size)[j]? = some x → cur[j * 2]? = some (.int .i64 x.pos) ∧ cur[j * 2 + 1]? = some (.string x.name)) := hide fun w' _ hR hall => by
    have e : compactUpTo d d.size = d.toList := by rw [compactUpTo_all d _ hall, range_map_get]
    rw [e]
    obtain ⟨cur, h1, h2, h3⟩ := hR
    refine ⟨by simp, cur, h1, fun j x hj => ?_⟩
    rw [Array.getElem?_toList] at hj
    obtain ⟨hlt, hx⟩ := Array.getElem?_eq_some_iff.1 hj
    have := h3 j hlt
    rwa [getElem!_pos d j hlt, hx] at this
  have HR := hide h
  have Hg0 := hide hg0
  clear h hg0
  by_cases h2 : d.size < 2
  · have h2i : (d.size : Int) < 2 := by omega
    go_enter Try.func62, Try.ntmps62
    go_wp2_with fail
    go_ret
    obtain ⟨e1, e2⟩ := HA.out w Hg0.out HR.out (fun j hj => keeps_lt_one d j (by omega))
    exact ⟨by rw [e1]; rfl, Hg0.out, e2⟩
  · have h2i : ¬ (d.size : Int) < 2 := by omega
    go_enter Try.func62, Try.ntmps62
    go_wp2_with fail
    go_loopw [3] (fun i wr => ∃ k : Nat, 1 ≤ k ∧ k ≤ d.size ∧ i = .int .i64 k ∧ Hid (∀ j, j < k → keeps d j = true) ∧ Hid (w.grownBy wr (some g)) ∧ Hid (RowO wr g d)) (fun i _ => d.size - (intOf i).toNat)
    case atStart => exact ⟨1, Nat.le_refl _, by omega, rfl, hide (keeps_lt_one d), Hg0, HR⟩
    case round =>
      obtain ⟨k, hk1, hk, rfl, Hall, Hg, Hr⟩ := hrel
      by_cases hlt : k < d.size
      · obtain ⟨c1, d1⟩ := Hr.out.cell hlt
        obtain ⟨c0, d0⟩ := Hr.out.cell (show k - 1 < d.size by omega)
        have hki : (k : Int) < (d.size : Int) := by omega
        have hk0 : (0 : Int) ≤ (k : Int) := by omega
        have hkm0 : (0 : Int) ≤ (k : Int) - 1 := by omega
        have hkm1 : (k : Int) - 1 < (d.size : Int) := by omega
        generalize hx : d[k]! = x at c1 d1
        generalize hy : d[k - 1]! = y at c0 d0
        have Hx := hide hx
        have Hy := hide hy
        clear hx hy
        by_cases hdup : x = y
        · have hE := eqlO x y true (by simp [hdup])
          have Hk2 : Hid (keeps d k = false) := hide (keeps_neg (by omega) (by rw [Hx.out, Hy.out]; exact hdup))
          go_wp2_with fail
          go_quiet (fail)
          have hki2 : (k : Int) ≤ (d.size : Int) := by omega
          have hcapi : (d.size : Int) ≤ (cap : Int) := by omega
          obtain ⟨W1, hW1⟩ : ∃ W, W = wr := ⟨_, rfl⟩
          subst hW1
          have Hg1 : Hid (∀ q, w.grownBy (W1.drewN q) (some g)) := hide fun q => ⟨Hg.out.os, Hg.out.tape, Hg.out.output, Hg.out.size, Hg.out.block⟩
          have Hr1 : Hid (∀ q, RowO (W1.drewN q) g d) := hide fun q => Hr.out
          have Hio : Hid ((Try.prog.info? 65).map (·.size) = some 2) := hide (by kernel_rfl)
          clear c0 c1 d0 d1 hE
          go_wp2_with fail
          go_loopw [3, 5] (fun s3 s5 wr => ∃ (kk k2 : Nat) (dk : Array Occ), s3 = .int .i64 kk ∧ s5 = .int .i64 k2 ∧ 1 ≤ k2 ∧ k + k2 ≤ d.size ∧ Hid (w.grownBy wr (some g)) ∧ Hid (RowO wr g dk) ∧ Hid (CompInv d (k + k2) kk dk)) (fun _ s5 _ => d.size - (k + (intOf s5).toNat))
          case atStart => exact ⟨k, 1, d, rfl, rfl, Nat.le_refl _, by omega, hide (Hg1.out _), hide (Hr1.out _), hide (CompInv.start Hall.out Hk2.out)⟩
          case round =>
            obtain ⟨kk, k2, dk, rfl, rfl, h21, h2s, Hg2, Hr2, HI⟩ := hrel
            have hkk := HI.out.lt
            have hds := HI.out.size
            by_cases hlt2 : k + k2 < d.size
            · obtain ⟨c1, d1⟩ := Hr2.out.cell (show k + k2 < dk.size by omega)
              obtain ⟨c0, d0⟩ := Hr2.out.cell (show k + k2 - 1 < dk.size by omega)
              rw [HI.out.high (k + k2) (by omega)] at c1 d1
              rw [HI.out.high (k + k2 - 1) (by omega)] at c0 d0
              rw [show (k + k2) * 2 = k * 2 + k2 * 2 by omega] at c1 d1
              rw [show (k + k2 - 1) * 2 = k * 2 + (k2 - 1) * 2 by omega] at c0 d0
              generalize hx : d[k + k2]! = x2 at c1 d1
              generalize hy : d[k + k2 - 1]! = y2 at c0 d0
              have Hx2 := hide hx
              have Hy2 := hide hy
              have hn0 : (0 : Int) ≤ (k2 : Int) := by omega
              have hn1 : (k2 : Int) < ((d.size - k : Nat) : Int) := by omega
              have hn2 : (0 : Int) ≤ (k2 : Int) - 1 := by omega
              have hn3 : (k2 : Int) - 1 < ((d.size - k : Nat) : Int) := by omega
              have hn4 : (0 : Int) ≤ (kk : Int) := by omega
              have hn5 : (kk : Int) < (d.size : Int) := by omega
              have Hg3 : Hid (∀ q, w.grownBy (wr.drewN q) (some g)) := hide fun q => ⟨Hg2.out.os, Hg2.out.tape, Hg2.out.output, Hg2.out.size, Hg2.out.block⟩
              clear hx hy
              by_cases huv : x2 = y2
              · have hE2 : ∀ W, (binOp .neq 65 (.agg #[.int .i64 x2.pos, .string x2.name]) (.agg #[.int .i64 y2.pos, .string y2.name])).run Try.prog W = .ok (.bool false) W := neqO x2 y2 true (by simp [huv])
                have Hkp : Hid (keeps d (k + k2) = false) := hide (keeps_neg (by omega) (by rw [Hx2.out, Hy2.out]; exact huv))
                have Hr3 : Hid (∀ q, RowO (wr.drewN q) g dk) := hide fun q => Hr2.out
                go_wp2_with fail
                go_quiet (fail)
                clear c0 c1 d0 d1 hE2
                go_wp2_with fail
                go_roundw
                case rel => exact ⟨kk, k2 + 1, dk, rfl, by go_num, by omega, by omega, hide (Hg3.out _), hide (Hr3.out _), hide (HI.out.skip Hkp.out)⟩
                case measure => simp [intOf]; omega
              · have hE2 : ∀ W, (binOp .neq 65 (.agg #[.int .i64 x2.pos, .string x2.name]) (.agg #[.int .i64 y2.pos, .string y2.name])).run Try.prog W = .ok (.bool true) W := neqO x2 y2 false (by simp [huv])
                have Hkp : Hid (keeps d (k + k2) = true) := hide (keeps_pos (by rw [Hx2.out, Hy2.out]; exact huv))
                obtain ⟨cur, hcur, hcz, hcc⟩ := Hr2.out
                have Hcur : Hid (∀ q, (wr.drewN q).heap[g]? = some (.cells cur 65 (0, 0))) := hide fun q => hcur
                have Hcc := hide hcc
                have Hr3 : Hid (∀ q, RowO (wr.drewN q) g dk) := hide fun q => Hr2.out
                have hfit : kk * 2 + 2 ≤ cur.size := by omega
                have Hu := hide (show ∀ u ∈ ([.int .i64 x2.pos, .string x2.name] : List Value), u.oneCell' = true by simp [Value.oneCell'])
                clear hcur hcc
                go_wp2_with fail
                go_quiet (fail)
                go_wp2_with (refine wpList_store_at 65 (.tmp 51) (.tmp 50) (cs := [.int .i64 x2.pos, .string x2.name]) rfl Hio.out rfl rfl rfl rfl Hu.out (Hcur.out _) hfit ?_; intro WF hP; refine hold ?_)
                have HP := hide hP
                have hgF : w.grownBy WF (some g) := by
                  have h1 := Hg3.out
                  exact ⟨HP.out.os.trans (h1 _).os, HP.out.tape.trans (h1 _).tape, HP.out.output.trans (h1 _).output, by rw [HP.out.size]; exact (h1 _).size, fun q hq hne => (HP.out.far q (fun e => hne (by rw [e]))).trans ((h1 _).block q hq hne)⟩
                have HgF := hide hgF
                have HrF := hide (RowO.put (Hr3.out _) (Hcur.out _) hP)
                clear hP HP hgF c0 c1 d0 d1 hE2
                refine Hold.go ?_
                go_wp2_with fail
                go_roundw
                case rel => exact ⟨kk + 1, k2 + 1, dk.setIfInBounds kk x2, by go_num, by go_num, by omega, by omega, HgF, HrF, hide (by have h7 := HI.out.keep hlt2 Hkp.out; rw [Hx2.out] at h7; exact h7)⟩
                case measure => simp [intOf]; omega
            · have hend : k + k2 = d.size := by omega
              obtain ⟨cur, hcur, hcz, hcc⟩ := Hr2.out
              obtain ⟨WC, hcl, hgc, cur2, hcur2, hsame⟩ := run_clearO wr g (kk * 2) (d.size - kk) (cap - kk) cur hcur (by omega)
              have Hgc := hide hgc
              have Hcur2 := hide hcur2
              have Hsame := hide hsame
              have Hcc := hide hcc
              have hn4 : (0 : Int) ≤ (kk : Int) := by omega
              have hn5 : (kk : Int) ≤ (d.size : Int) := by omega
              have hn6 : (kk : Int) ≤ (cap : Int) := by omega
              have hn7 : ¬ (k2 : Int) < ((d.size - k : Nat) : Int) := by omega
              have hlen := HI.out.len
              have hlow := HI.out.low
              rw [hend] at hlen hlow
              have Hlen := hide hlen
              have Hlow := hide hlow
              clear hgc hcur2 hsame hcc hlen hlow hend
              go_wp2_with fail
              go_ret
              refine ⟨by rw [Hlen.out]; rfl, ⟨Hgc.out.os.trans Hg2.out.os, Hgc.out.tape.trans Hg2.out.tape, Hgc.out.output.trans Hg2.out.output, Nat.le_trans Hg2.out.size Hgc.out.size, fun q hq hne => (Hgc.out.block q (Nat.lt_of_lt_of_le hq Hg2.out.size) hne).trans (Hg2.out.block q hq hne)⟩, cur2, Hcur2.out, fun j x hj => ?_⟩
              have hjk : j < kk := by rw [← Hlen.out]; exact (List.getElem?_eq_some_iff.1 hj).1
              rw [Hlow.out j hjk] at hj
              obtain rfl := Option.some.inj hj
              rw [Hsame.out (j * 2) (by omega), Hsame.out (j * 2 + 1) (by omega)]
              exact Hcc.out j (by omega)
        · have hE := eqlO x y false (by simp [hdup])
          have Hk2 : Hid (keeps d k = true) := hide (keeps_pos (by rw [Hx.out, Hy.out]; exact hdup))
          go_wp2_with fail
          go_quiet (fail)
          go_wp2_with fail
          go_roundw
          case rel =>
            refine ⟨k + 1, by omega, by omega, by go_num, hide fun j hj => ?_, hide ⟨Hg.out.os, Hg.out.tape, Hg.out.output, Hg.out.size, Hg.out.block⟩, hide Hr.out⟩
            by_cases e : j = k
            · subst e
              exact Hk2.out
            · exact Hall.out j (by omega)
          case measure => simp [intOf]; omega
      · have hke : k = d.size := by omega
        subst hke
        go_wp2_with fail
        go_ret
        obtain ⟨e1, e2⟩ := HA.out wr Hg.out Hr.out Hall.out
        exact ⟨by rw [e1]; rfl, Hg.out, e2⟩
end Go.Proofs.Ytaihdnlpdibkoaa
