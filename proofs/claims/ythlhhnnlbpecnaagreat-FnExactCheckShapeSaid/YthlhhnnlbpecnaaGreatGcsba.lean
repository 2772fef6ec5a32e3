/- Several texts of one proof in one file: The program's walk over all nodes, its closure gathering the uses. The program's comparison of two occurrences: it makes blocks of its own and returns which comes first. slices.Compact at occurrences: neighbours that are equal taken once, in place. Conditions: each theorem names its own. -/
import Derived.Test.YthlhhnnlbpecnaaGreatGcsaz
import Derived.Test.YthlhhnnlbpecnaaGreatGcsat
import Derived.Deep.QuietTactic
import Derived.Lib.SlicesCompact

/- The program's walk over all nodes, its closure gathering the uses. Conditions: at most 2^20 uses. -/
namespace Go.Proofs.YthlhhnnlbpecnaaGreat
set_option linter.unusedSimpArgs false
set_option linter.unusedVariables false
set_option maxRecDepth 100000
open Go.RowKit Go.WideShapes
set_option linter.unusedVariables false

theorem flat_le {d : Nat} {l : List Ex} {j : Nat} {x : Ex} (hx : l[j]? = some x) : (((l.take j).map (usesE d)).flatten).length + (usesE d x).length ≤ ((l.map (usesE d)).flatten).length := by
  have h : l = l.take j ++ x :: l.drop (j + 1) := by
    have h1 := List.take_append_drop j l
    have h2 : l.drop j = x :: l.drop (j + 1) := by
      obtain ⟨hj, e⟩ := List.getElem?_eq_some_iff.1 hx
      rw [List.drop_eq_getElem_cons hj, e]
    rw [h2] at h1
    exact h1.symm
  have h2 : ((l.map (usesE d)).flatten).length = (((l.take j ++ x :: l.drop (j + 1)).map (usesE d)).flatten).length := by rw [← h]
  rw [h2, List.map_append, List.map_cons, List.flatten_append, List.flatten_cons, List.length_append, List.length_append]
  omega
theorem flat_snoc {d : Nat} {l : List Ex} {j : Nat} {x : Ex} (hx : l[j]? = some x) : ((l.take (j + 1)).map (usesE d)).flatten = ((l.take j).map (usesE d)).flatten ++ usesE d x := by
  rw [take_snoc hx]
  simp
def EvN_use (B bo d : Nat) : Prop := ∀ (e : Ex) (cs : List Value) (F : List Nat) (w : World) (v : Value) (xs : List Occ), ExR d w e cs F → (∀ k ∈ F, k < B) → B ≤ w.heap.size → St B bo w v xs → xs.length + (usesE d e).length ≤ 2097152 →
  Calls Tryz.prog 89 #[.agg cs.toArray, .func (.func 90) #[] #[.pointer (some ⟨bo, 0, none⟩)]] w fun en w' => en = .returned (.bool true) ∧ ∃ v', Acc B bo w v w' v' (xs ++ usesE d e)
set_option maxRecDepth 100000 in
set_option maxHeartbeats 2000000 in
theorem clo1_use {B bo d : Nat} (hE : EvN_use B bo d) (e : Ex) (cs : List Value) (F : List Nat) (w : World) (v : Value) (xs : List Occ) (Bp : Nat) (h : ExR d w e cs F) (hc : w.cell? ⟨Bp, 0, none⟩ = some (.func (.func 90) #[] #[.pointer (some ⟨bo, 0, none⟩)])) (hF : ∀ k ∈ F, k < B) (hB : B ≤ w.heap.size) (hs : St B bo w v xs) (hn : xs.length + (usesE d e).length ≤ 2097152) :
    Calls Tryz.prog 119 #[.agg cs.toArray, .pointer (some ⟨Bp, 0, none⟩)] w fun en w' => en = .returned (.bool false) ∧ ∃ v', Acc B bo w v w' v' (xs ++ usesE d e) := by
  match d, h with
  | d + 1, h =>
  obtain ⟨A, cap, rfl, hok, hl, hm, hsl⟩ := ex_form h
  have HR := hide h
  have HF := hide hF
  have HE := hide hE
  have HS := hide hs
  have Hn := hide hn
  obtain ⟨⟨k, n, p, t, s, m⟩, l⟩ := e
  have hlt := cell_lt hc
  simp only [Ex.args, Ex.h, ExH.cells] at HR
  show Calls _ _ #[.agg #[.int .i64 k, .int .i64 n, .int .i64 p, .int .i64 t, .string s, .string m, .slice A l.length cap], .pointer (some ⟨Bp, 0, none⟩)] w _
  generalize Ex.mk ⟨k, n, p, t, s, m⟩ l = e at HR Hn ⊢
  have Hb : Hid (Below w.heap.size w (w.alloc (.cells #[.int .i64 k, .int .i64 n, .int .i64 p, .int .i64 t, .string s, .string m, .slice A l.length cap] 86))) := hide ((Below.refl _ _).alloc (Nat.le_refl _) _)
  clear h hsl hok hl hm hE hs hn
  go_enter Tryz.func119, Tryz.ntmps119
  go_wp2_with fail
  refine Calls.mono (HE.out e _ F _ v xs ((ExR.good (d + 1)).below HR.out Hb.out (fun k hk => Nat.lt_of_lt_of_le (HF.out k hk) hB)) HF.out (Nat.le_trans hB Hb.out.size) (HS.out.below Hb.out) Hn.out) ?_
  rintro en w2 ⟨rfl, v2, hA⟩
  have HA := hide (hA.pre Hb.out)
  clear hA
  go_wp2_with fail
  go_ret
  exact ⟨rfl, _, HA.out⟩
set_option maxRecDepth 100000 in
set_option maxHeartbeats 2000000 in
theorem idx_use {B bo d : Nat} (hE : EvN_use B bo d) (l : List Ex) (A : Option Addr) (cap : Nat) (F : List Nat) (w : World) (v : Value) (xs : List Occ) (Bp : Nat) (hsl : SlR 7 (ExR d) w l (.slice A l.length cap) F) (hc : w.heap[Bp]? = some (.cells #[.func (.func 90) #[] #[.pointer (some ⟨bo, 0, none⟩)]] 96 (0, 0))) (hp1 : Bp ≠ bo) (hp2 : v.ownBlock ≠ some Bp) (hF : ∀ k ∈ F, k < B) (hB : B ≤ w.heap.size) (hbo : B ≤ bo) (hs : St B bo w v xs) (hn : xs.length + ((l.map (usesE d)).flatten).length ≤ 2097152) :
    Calls Tryz.prog 88 #[.slice A l.length cap, .func (.func 119) #[] #[.pointer (some ⟨Bp, 0, none⟩)]] w fun en w' => en = .returned (.int .i64 (-1)) ∧ ∃ v', Acc B bo w v w' v' (xs ++ (l.map (usesE d)).flatten) := by
  obtain ⟨_, hlc, hm⟩ := hsl.bnd
  unfold maxLen at hm
  have Hs := hide hsl
  have HE := hide hE
  have HS := hide hs
  have HF := hide hF
  have HFw : Hid (∀ k ∈ F, k < w.heap.size) := hide fun k hk => Nat.lt_of_lt_of_le (hF k hk) hB
  have hBlt := blk_lt hc
  have Hc := hide hc
  have Hn := hide hn
  have Hp1 := hide hp1
  have Hp2 := hide hp2
  clear hsl hE hc hs hF hn hp1 hp2
  go_enter Tryz.func88, Tryz.ntmps88
  go_wp2_with fail
  go_loopw [8] (fun i wr => ∃ (j : Nat) (v' : Value), j ≤ l.length ∧ i = .int .i64 j ∧ Hid (Acc B bo w v wr v' (xs ++ ((l.take j).map (usesE d)).flatten))) (fun i _ => l.length - (intOf i).toNat)
  case atStart => exact ⟨0, v, by omega, rfl, hide (by simpa using Acc.refl HS.out)⟩
  case round =>
    obtain ⟨j, v', hj, rfl, HA⟩ := hrel
    have hdn := HA.out.down HS.out hbo hB
    have hz := hdn.size
    by_cases hlt : j < l.length
    · have hx : l[j]? = some l[j] := List.getElem?_eq_getElem hlt
      generalize l[j] = x at hx
      have Hx := hide hx
      obtain ⟨b, off, A', cap', Fk, hA, hbF, hFk, _, hl', hm', hcat, hR⟩ := ex_get (Hs.out.below (ExR.good d) hdn HF.out) hx
      subst hA
      obtain ⟨e0, e1, e2, e3, e4, e5, e6⟩ := hcat.seven
      have hblt : b < wr.heap.size := Nat.lt_of_lt_of_le (HFw.out b hbF) hz
      have HR := hide hR
      have HFk : Hid (∀ i ∈ Fk, i < B) := hide fun i hi => HF.out i (hFk i hi)
      have Hcw : Hid (wr.cell? ⟨Bp, 0, none⟩ = some (.func (.func 90) #[] #[.pointer (some ⟨bo, 0, none⟩)])) := hide (by
        have h1 := (HA.out.keep Bp hBlt Hp1.out Hp2.out).trans Hc.out
        rw [cell_of_row _ _ _ _ _ _ h1]
        rfl)
      have HBr : Hid (B ≤ wr.heap.size) := hide (Nat.le_trans hB hz)
      have Hnx : Hid ((xs ++ ((l.take j).map (usesE d)).flatten).length + (usesE d x).length ≤ 2097152) := hide (by
        have h1 := flat_le (d := d) hx
        have h2 := Hn.out
        rw [List.length_append]
        omega)
      clear hx hR hcat hFk hbF hl' hm' hdn
      go_wp2_with fail
      refine Calls.mono (clo1_use HE.out x _ Fk _ v' _ Bp HR.out Hcw.out HFk.out HBr.out HA.out.st Hnx.out) ?_
      rintro en w2 ⟨rfl, v2, hA2⟩
      have HA2 : Hid (Acc B bo w v w2 v2 (xs ++ ((l.take (j + 1)).map (usesE d)).flatten)) := hide (by
        rw [flat_snoc Hx.out, ← List.append_assoc]
        exact HA.out.trans hA2)
      clear hA2
      go_wp2_with fail
      go_roundw
      case rel => exact ⟨j + 1, v2, by omega, by go_num, HA2⟩
      case measure => simp [intOf]; omega
    · have hjl : j = l.length := by omega
      have HA2 : Hid (Acc B bo w v wr v' (xs ++ (l.map (usesE d)).flatten)) := hide (by have := HA.out; rw [hjl, List.take_length] at this; exact this)
      clear hdn
      go_wp2_with fail
      go_ret
      exact ⟨rfl, _, HA2.out⟩
set_option maxRecDepth 100000 in
set_option maxHeartbeats 2000000 in
theorem con_use {B bo d : Nat} (hE : EvN_use B bo d) (l : List Ex) (A : Option Addr) (cap : Nat) (F : List Nat) (w : World) (v : Value) (xs : List Occ) (Bp : Nat) (hsl : SlR 7 (ExR d) w l (.slice A l.length cap) F) (hc : w.heap[Bp]? = some (.cells #[.func (.func 90) #[] #[.pointer (some ⟨bo, 0, none⟩)]] 96 (0, 0))) (hp1 : Bp ≠ bo) (hp2 : v.ownBlock ≠ some Bp) (hF : ∀ k ∈ F, k < B) (hB : B ≤ w.heap.size) (hbo : B ≤ bo) (hs : St B bo w v xs) (hn : xs.length + ((l.map (usesE d)).flatten).length ≤ 2097152) :
    Calls Tryz.prog 53 #[.slice A l.length cap, .func (.func 119) #[] #[.pointer (some ⟨Bp, 0, none⟩)]] w fun en w' => en = .returned (.bool false) ∧ ∃ v', Acc B bo w v w' v' (xs ++ (l.map (usesE d)).flatten) := by
  have HI := hide (idx_use hE l A cap F w v xs Bp hsl hc hp1 hp2 hF hB hbo hs hn)
  clear hE hsl hc hp1 hp2 hF hB hbo hs hn
  go_enter Tryz.func53, Tryz.ntmps53
  go_wp2_with fail
  refine Calls.mono HI.out ?_
  rintro en w2 ⟨rfl, v2, hA⟩
  have HA := hide hA
  clear hA
  go_wp2_with fail
  go_ret
  exact ⟨by first | rfl | simp, _, HA.out⟩
set_option maxRecDepth 100000 in
set_option maxHeartbeats 2000000 in
theorem evn_use {B bo : Nat} (hbo : B ≤ bo) : ∀ d, EvN_use B bo d
  | 0 => fun _ _ _ _ _ _ h => h.elim
  | d + 1 => fun e cs F w v xs h hF hB hs hn => by
    have HP : Hid (∀ W : World, Below w.heap.size w W → Calls Tryz.prog 90 #[.agg cs.toArray, .pointer (some ⟨bo, 0, none⟩)] W fun en w' => en = .returned (.bool true) ∧ ∃ v', Acc B bo W v w' v' (xs ++ useH e.h)) := hide fun W hW =>
      clo_use e cs F W ((ExR.good (d + 1)).below h hW (fun k hk => Nat.lt_of_lt_of_le (hF k hk) hB)) (hs.below hW) (Nat.le_trans hB hW.size) (by simp only [usesE, List.length_append] at hn; omega)
    obtain ⟨A, cap, rfl, hok, hl, hm, hsl⟩ := ex_form h
    have HF := hide hF
    have HS := hide hs
    have hbl := hs.lt
    have Hv : Hid (∀ k, v.ownBlock = some k → k < w.heap.size) := hide fun k hk => (hs.own.blk k hk).2
    have Hq : Hid (usesE (d + 1) e = useH e.h ++ (e.args.map (usesE d)).flatten) := hide rfl
    have Hsl := hide hsl
    have HC : Hid (∀ (W : World) (v1 : Value) (Bp : Nat), Acc B bo w v W v1 (xs ++ useH e.h) → W.heap[Bp]? = some (.cells #[.func (.func 90) #[] #[.pointer (some ⟨bo, 0, none⟩)]] 96 (0, 0)) → Bp ≠ bo → v1.ownBlock ≠ some Bp →
        Calls Tryz.prog 53 #[.slice A e.args.length cap, .func (.func 119) #[] #[.pointer (some ⟨Bp, 0, none⟩)]] W fun en w' => en = .returned (.bool false) ∧ ∃ v', Acc B bo W v1 w' v' ((xs ++ useH e.h) ++ (e.args.map (usesE d)).flatten)) := hide fun W v1 Bp hW h1 h2 h3 =>
      con_use (evn_use hbo d) e.args A cap F W v1 _ Bp (Hsl.out.below (ExR.good d) (hW.down HS.out hbo hB) HF.out) h1 h2 h3 HF.out (Nat.le_trans hB hW.size) hbo hW.st (by
        simp only [usesE, List.length_append] at hn
        rw [List.length_append]
        omega)
    obtain ⟨⟨k, n, p, t, s, m⟩, l⟩ := e
    simp only [Ex.args, Ex.h, ExH.cells] at HP HC Hq
    have hu := Hq.out
    rw [hu, ← List.append_assoc]
    generalize useH ⟨k, n, p, t, s, m⟩ = us at HP HC
    show Calls _ _ #[.agg #[.int .i64 k, .int .i64 n, .int .i64 p, .int .i64 t, .string s, .string m, .slice A l.length cap], .func (.func 90) #[] #[.pointer (some ⟨bo, 0, none⟩)]] w _
    clear hsl hok h hl hm hu Hq hF hs hn Hsl
    have hb1 : Below w.heap.size w (w.alloc (.cells #[.int .i64 k, .int .i64 n, .int .i64 p, .int .i64 t, .string s, .string m, .slice A l.length cap] 86)) := (Below.refl _ _).alloc (Nat.le_refl _) _
    have z1 := heap_alloc_new w (.cells #[.int .i64 k, .int .i64 n, .int .i64 p, .int .i64 t, .string s, .string m, .slice A l.length cap] 86)
    have z2 := heap_alloc_new (w.alloc (.cells #[.int .i64 k, .int .i64 n, .int .i64 p, .int .i64 t, .string s, .string m, .slice A l.length cap] 86)) (.cells #[.func (.func 90) #[] #[.pointer (some ⟨bo, 0, none⟩)]] 96)
    rw [World.size_alloc] at z2
    have hb2 : Below w.heap.size w ((w.alloc (.cells #[.int .i64 k, .int .i64 n, .int .i64 p, .int .i64 t, .string s, .string m, .slice A l.length cap] 86)).alloc (.cells #[.func (.func 90) #[] #[.pointer (some ⟨bo, 0, none⟩)]] 96)) := hb1.alloc hb1.size _
    have z1' := ((Below.refl (w.heap.size + 1) (w.alloc (.cells #[.int .i64 k, .int .i64 n, .int .i64 p, .int .i64 t, .string s, .string m, .slice A l.length cap] 86))).alloc (by simp) (.cells #[.func (.func 90) #[] #[.pointer (some ⟨bo, 0, none⟩)]] 96)).block w.heap.size (by omega)
    rw [z1] at z1'
    have HZ1 := hide z1'
    have HZ2 := hide z2
    have Hb2 := hide hb2
    clear hb1 z1 z2 hb2 z1'
    go_enter Tryz.func89, Tryz.ntmps89
    go_wp2_with fail
    refine Calls.mono (HP.out _ Hb2.out) ?_
    rintro en w2 ⟨rfl, v2, hA⟩
    have y1 := hA.box HS.out HZ1.out (Nat.le_refl _)
    have y2 := hA.box HS.out HZ2.out (by omega)
    have c6 := cell_at (i := 6) y1 (by simp)
    have HA := hide (hA.pre Hb2.out)
    have Hy2 := hide y2
    have Hnv : Hid (v2.ownBlock ≠ some (w.heap.size + 1)) := hide fun e => by
      rcases hA.wher _ e with e | e
      · have := Hv.out _ e; omega
      · have := blk_lt HZ2.out; omega
    clear hA y1 y2
    go_wp2_with fail
    refine Calls.mono (HC.out _ _ _ HA.out Hy2.out (by omega) Hnv.out) ?_
    rintro en w3 ⟨rfl, v3, hA3⟩
    have HA3 := hide (HA.out.trans hA3)
    clear hA3
    go_wp2_with fail
    go_ret
    exact ⟨by first | rfl | simp, _, HA3.out⟩
end Go.Proofs.YthlhhnnlbpecnaaGreat

/- The program's comparison of two occurrences: it makes blocks of its own and returns which comes first. Conditions: none. -/
namespace Go.Proofs.YthlhhnnlbpecnaaGreat
set_option linter.unusedSimpArgs false
set_option linter.unusedVariables false
set_option maxRecDepth 100000
open Go.RowKit Go.WideShapes
set_option linter.unusedVariables false

set_option maxRecDepth 100000 in
set_option maxHeartbeats 2000000 in
theorem t_cmpO (x y : Occ) (w : World) : Calls Tryz.prog 92 #[.agg #[.int .i64 x.pos, .string x.name], .agg #[.int .i64 y.pos, .string y.name]] w fun e w' => e = .returned (.int .i64 (cmpO x y)) ∧ ∃ (q : Nat) (os : Array Obj), w' = Sort.grow (w.drewN q) os := by
  have z1 := heap_alloc_new w (.cells #[.int .i64 x.pos, .string x.name] 81)
  have z2 := heap_alloc_new (w.alloc (.cells #[.int .i64 x.pos, .string x.name] 81)) (.cells #[.int .i64 y.pos, .string y.name] 81)
  rw [World.size_alloc] at z2
  have z1' := ((Below.refl (w.heap.size + 1) (w.alloc (.cells #[.int .i64 x.pos, .string x.name] 81))).alloc (by simp) (.cells #[.int .i64 y.pos, .string y.name] 81)).block w.heap.size (by omega)
  rw [z1] at z1'
  obtain ⟨V, hV⟩ : ∃ V, V = (w.alloc (.cells #[.int .i64 x.pos, .string x.name] 81)).alloc (.cells #[.int .i64 y.pos, .string y.name] 81) := ⟨_, rfl⟩
  rw [← hV] at z1' z2
  have q1 : Hid (V.drew.cell? ⟨w.heap.size, 0, none⟩ = some (.int .i64 x.pos)) := hide (by rw [cell_of_row V.drew _ 0 _ _ _ z1']; rfl)
  have q3 : Hid (V.drew.cell? ⟨w.heap.size, 1, none⟩ = some (.string x.name)) := hide (by rw [cell_of_row V.drew _ 1 _ _ _ z1']; rfl)
  have q2 : Hid (V.drew.cell? ⟨w.heap.size + 1, 0, none⟩ = some (.int .i64 y.pos)) := hide (by rw [cell_of_row V.drew _ 0 _ _ _ z2]; rfl)
  have q4 : Hid (V.drew.cell? ⟨w.heap.size + 1, 1, none⟩ = some (.string y.name)) := hide (by rw [cell_of_row V.drew _ 1 _ _ _ z2]; rfl)
  have Hv := hide hV
  clear z1 z2 z1'
  go_enter Tryz.func92, Tryz.ntmps92
  go_wp2_with fail
  rw [← hV]
  clear hV
  refine region_invA (fun a0 l a' w' => ∃ x0 x1 x2 x3 x4 x5 x6 x7 x8 x9 x10 x11 x12 : Value, a' = (((((((((((((a0.put (some 5) x0).put (some 6) x1).put (some 7) x2).put (some 8) x3).put (some 9) x4).put (some 10) x5).put (some 11) x6).put (some 12) x7).put (some 13) x8).put (some 14) x9).put (some 15) x10).put (some 16) x11).put (some 4) x12) ∧ (l 12 = true → ∀ i, i < 12 → l i = true) ∧ (l 12 = true → x12 = .int .i64 (cmpO x y) ∧ w' = V.drew.alloc (.cells #[.int .i64 (cmpI x.pos y.pos), .int .i64 (cmpB x.name.data.toList y.name.data.toList)] 3)) ∧ (l 12 = false → (l 10 = true → ∀ i, i < 10 → l i = true) ∧ (l 10 = false → Hid (w' = V.drew)) ∧ (l 10 = true → Hid (w' = V.drew.alloc (.cells #[.int .i64 (cmpI x.pos y.pos), .int .i64 (cmpB x.name.data.toList y.name.data.toList)] 3))) ∧ (l 0 = true → x0 = .pointer (some ⟨w.heap.size, 0, none⟩)) ∧ (l 1 = true → x1 = .int .i64 x.pos) ∧ (l 2 = true → x2 = .pointer (some ⟨w.heap.size + 1, 0, none⟩)) ∧ (l 3 = true → x3 = .int .i64 y.pos) ∧ (l 4 = true → x4 = .int .i64 (cmpI x.pos y.pos)) ∧ (l 5 = true → x5 = .pointer (some ⟨w.heap.size, 1, none⟩)) ∧ (l 6 = true → x6 = .string x.name) ∧ (l 7 = true → x7 = .pointer (some ⟨w.heap.size + 1, 1, none⟩)) ∧ (l 8 = true → x8 = .string y.name) ∧ (l 9 = true → x9 = .int .i64 (cmpB x.name.data.toList y.name.data.toList)) ∧ (l 10 = true → ∃ g : Nat, x10 = .slice (some ⟨g, 0, none⟩) 2 2 ∧ w'.heap[g]? = some (.cells #[.int .i64 (cmpI x.pos y.pos), .int .i64 (cmpB x.name.data.toList y.name.data.toList)] 3 (0, 0))) ∧ (l 11 = true → x11 = .int .i64 (cmpO x y)))) rfl (by kernel_rfl) ?h0 ?hstep ?hend
  case h0 => exact ⟨undef, undef, undef, undef, undef, undef, undef, undef, undef, undef, undef, undef, .int .i64 0, by kernel_rfl, fun h => absurd h (by decide), fun h => absurd h (by decide), fun _ => ⟨fun h => absurd h (by decide), fun _ => hide rfl, fun h => absurd h (by decide), fun h => absurd h (by decide), fun h => absurd h (by decide), fun h => absurd h (by decide), fun h => absurd h (by decide), fun h => absurd h (by decide), fun h => absurd h (by decide), fun h => absurd h (by decide), fun h => absurd h (by decide), fun h => absurd h (by decide), fun h => absurd h (by decide), fun h => absurd h (by decide), fun h => absurd h (by decide)⟩⟩
  case hstep =>
    refine ⟨?s0, ?s1, ?s2, ?s3, ?s4, ?s5, ?s6, ?s7, ?s8, ?s9, ?s10, ?s11, ?s12, trivial⟩
    case s0 =>
      intro l a' w' hk hpre hJ K hK
      obtain ⟨x0, x1, x2, x3, x4, x5, x6, x7, x8, x9, x10, x11, x12, ha, hall, hfin, hfs⟩ := hJ
      have h12 : l 12 = false := upd_last hall hk (by decide)
      clear hall hfin
      obtain ⟨hA, hE, hF, f0, f1, f2, f3, f4, f5, f6, f7, f8, f9, f10, f11⟩ := hfs h12
      clear hfs
      have h10 : l 10 = false := upd_last hA hk (by decide)

      subst ha
      go_simp
      exact hK.out _ _ ⟨.pointer (some ⟨w.heap.size, 0, none⟩), x1, x2, x3, x4, x5, x6, x7, x8, x9, x10, x11, x12, by kernel_rfl, fun h => absurd (updL_ne h (by decide)) (by rw [h12]; decide), fun h => absurd (updL_ne h (by decide)) (by rw [h12]; decide), fun _ => ⟨updL_all hA (by decide), fun h => hE (updL_f h), fun h => hF (updL_ne h (by decide)), fun _ => rfl, fun h => f1 (updL_ne h (by decide)), fun h => f2 (updL_ne h (by decide)), fun h => f3 (updL_ne h (by decide)), fun h => f4 (updL_ne h (by decide)), fun h => f5 (updL_ne h (by decide)), fun h => f6 (updL_ne h (by decide)), fun h => f7 (updL_ne h (by decide)), fun h => f8 (updL_ne h (by decide)), fun h => f9 (updL_ne h (by decide)), fun h => absurd (updL_ne h (by decide)) (by rw [h10]; decide), fun h => f11 (updL_ne h (by decide))⟩⟩
    case s1 =>
      intro l a' w' hk hpre hJ K hK
      obtain ⟨x0, x1, x2, x3, x4, x5, x6, x7, x8, x9, x10, x11, x12, ha, hall, hfin, hfs⟩ := hJ
      have h12 : l 12 = false := upd_last hall hk (by decide)
      clear hall hfin
      obtain ⟨hA, hE, hF, f0, f1, f2, f3, f4, f5, f6, f7, f8, f9, f10, f11⟩ := hfs h12
      clear hfs
      have p0 : l 0 = true := hpre 0 (by kernel_rfl)
      have h10 : l 10 = false := upd_last hA hk (by decide)
      have hw := (hE h10).out
      obtain rfl := f0 p0
      have q : w'.cell? ⟨w.heap.size, 0, none⟩ = some (.int .i64 x.pos) := by rw [hw]; exact q1.out
      clear hw
      subst ha
      go_simp
      exact hK.out _ _ ⟨.pointer (some ⟨w.heap.size, 0, none⟩), .int .i64 x.pos, x2, x3, x4, x5, x6, x7, x8, x9, x10, x11, x12, by kernel_rfl, fun h => absurd (updL_ne h (by decide)) (by rw [h12]; decide), fun h => absurd (updL_ne h (by decide)) (by rw [h12]; decide), fun _ => ⟨updL_all hA (by decide), fun h => hE (updL_f h), fun h => hF (updL_ne h (by decide)), fun h => f0 (updL_ne h (by decide)), fun _ => rfl, fun h => f2 (updL_ne h (by decide)), fun h => f3 (updL_ne h (by decide)), fun h => f4 (updL_ne h (by decide)), fun h => f5 (updL_ne h (by decide)), fun h => f6 (updL_ne h (by decide)), fun h => f7 (updL_ne h (by decide)), fun h => f8 (updL_ne h (by decide)), fun h => f9 (updL_ne h (by decide)), fun h => absurd (updL_ne h (by decide)) (by rw [h10]; decide), fun h => f11 (updL_ne h (by decide))⟩⟩
    case s2 =>
      intro l a' w' hk hpre hJ K hK
      obtain ⟨x0, x1, x2, x3, x4, x5, x6, x7, x8, x9, x10, x11, x12, ha, hall, hfin, hfs⟩ := hJ
      have h12 : l 12 = false := upd_last hall hk (by decide)
      clear hall hfin
      obtain ⟨hA, hE, hF, f0, f1, f2, f3, f4, f5, f6, f7, f8, f9, f10, f11⟩ := hfs h12
      clear hfs
      have h10 : l 10 = false := upd_last hA hk (by decide)

      subst ha
      go_simp
      exact hK.out _ _ ⟨x0, x1, .pointer (some ⟨w.heap.size + 1, 0, none⟩), x3, x4, x5, x6, x7, x8, x9, x10, x11, x12, by kernel_rfl, fun h => absurd (updL_ne h (by decide)) (by rw [h12]; decide), fun h => absurd (updL_ne h (by decide)) (by rw [h12]; decide), fun _ => ⟨updL_all hA (by decide), fun h => hE (updL_f h), fun h => hF (updL_ne h (by decide)), fun h => f0 (updL_ne h (by decide)), fun h => f1 (updL_ne h (by decide)), fun _ => rfl, fun h => f3 (updL_ne h (by decide)), fun h => f4 (updL_ne h (by decide)), fun h => f5 (updL_ne h (by decide)), fun h => f6 (updL_ne h (by decide)), fun h => f7 (updL_ne h (by decide)), fun h => f8 (updL_ne h (by decide)), fun h => f9 (updL_ne h (by decide)), fun h => absurd (updL_ne h (by decide)) (by rw [h10]; decide), fun h => f11 (updL_ne h (by decide))⟩⟩
    case s3 =>
      intro l a' w' hk hpre hJ K hK
      obtain ⟨x0, x1, x2, x3, x4, x5, x6, x7, x8, x9, x10, x11, x12, ha, hall, hfin, hfs⟩ := hJ
      have h12 : l 12 = false := upd_last hall hk (by decide)
      clear hall hfin
      obtain ⟨hA, hE, hF, f0, f1, f2, f3, f4, f5, f6, f7, f8, f9, f10, f11⟩ := hfs h12
      clear hfs
      have p2 : l 2 = true := hpre 2 (by kernel_rfl)
      have h10 : l 10 = false := upd_last hA hk (by decide)
      have hw := (hE h10).out
      obtain rfl := f2 p2
      have q : w'.cell? ⟨w.heap.size + 1, 0, none⟩ = some (.int .i64 y.pos) := by rw [hw]; exact q2.out
      clear hw
      subst ha
      go_simp
      exact hK.out _ _ ⟨x0, x1, .pointer (some ⟨w.heap.size + 1, 0, none⟩), .int .i64 y.pos, x4, x5, x6, x7, x8, x9, x10, x11, x12, by kernel_rfl, fun h => absurd (updL_ne h (by decide)) (by rw [h12]; decide), fun h => absurd (updL_ne h (by decide)) (by rw [h12]; decide), fun _ => ⟨updL_all hA (by decide), fun h => hE (updL_f h), fun h => hF (updL_ne h (by decide)), fun h => f0 (updL_ne h (by decide)), fun h => f1 (updL_ne h (by decide)), fun h => f2 (updL_ne h (by decide)), fun _ => rfl, fun h => f4 (updL_ne h (by decide)), fun h => f5 (updL_ne h (by decide)), fun h => f6 (updL_ne h (by decide)), fun h => f7 (updL_ne h (by decide)), fun h => f8 (updL_ne h (by decide)), fun h => f9 (updL_ne h (by decide)), fun h => absurd (updL_ne h (by decide)) (by rw [h10]; decide), fun h => f11 (updL_ne h (by decide))⟩⟩
    case s4 =>
      intro l a' w' hk hpre hJ K hK
      obtain ⟨x0, x1, x2, x3, x4, x5, x6, x7, x8, x9, x10, x11, x12, ha, hall, hfin, hfs⟩ := hJ
      have h12 : l 12 = false := upd_last hall hk (by decide)
      clear hall hfin
      obtain ⟨hA, hE, hF, f0, f1, f2, f3, f4, f5, f6, f7, f8, f9, f10, f11⟩ := hfs h12
      clear hfs
      have p1 : l 1 = true := hpre 1 (by kernel_rfl)
      have p3 : l 3 = true := hpre 3 (by kernel_rfl)
      have h10 : l 10 = false := upd_last hA hk (by decide)
      obtain rfl := f1 p1
      obtain rfl := f3 p3

      subst ha
      go_simp
      go_at_call 123
      refine Calls.mono (t_CmpI _ _ _) ?_
      rintro en w2 ⟨rfl, hw2⟩
      obtain rfl := hw2.symm
      exact hK.out _ _ ⟨x0, .int .i64 x.pos, x2, .int .i64 y.pos, .int .i64 (cmpI x.pos y.pos), x5, x6, x7, x8, x9, x10, x11, x12, by kernel_rfl, fun h => absurd (updL_ne h (by decide)) (by rw [h12]; decide), fun h => absurd (updL_ne h (by decide)) (by rw [h12]; decide), fun _ => ⟨updL_all hA (by decide), fun h => hE (updL_f h), fun h => hF (updL_ne h (by decide)), fun h => f0 (updL_ne h (by decide)), fun h => f1 (updL_ne h (by decide)), fun h => f2 (updL_ne h (by decide)), fun h => f3 (updL_ne h (by decide)), fun _ => rfl, fun h => f5 (updL_ne h (by decide)), fun h => f6 (updL_ne h (by decide)), fun h => f7 (updL_ne h (by decide)), fun h => f8 (updL_ne h (by decide)), fun h => f9 (updL_ne h (by decide)), fun h => absurd (updL_ne h (by decide)) (by rw [h10]; decide), fun h => f11 (updL_ne h (by decide))⟩⟩
    case s5 =>
      intro l a' w' hk hpre hJ K hK
      obtain ⟨x0, x1, x2, x3, x4, x5, x6, x7, x8, x9, x10, x11, x12, ha, hall, hfin, hfs⟩ := hJ
      have h12 : l 12 = false := upd_last hall hk (by decide)
      clear hall hfin
      obtain ⟨hA, hE, hF, f0, f1, f2, f3, f4, f5, f6, f7, f8, f9, f10, f11⟩ := hfs h12
      clear hfs
      have h10 : l 10 = false := upd_last hA hk (by decide)

      subst ha
      go_simp
      exact hK.out _ _ ⟨x0, x1, x2, x3, x4, .pointer (some ⟨w.heap.size, 1, none⟩), x6, x7, x8, x9, x10, x11, x12, by kernel_rfl, fun h => absurd (updL_ne h (by decide)) (by rw [h12]; decide), fun h => absurd (updL_ne h (by decide)) (by rw [h12]; decide), fun _ => ⟨updL_all hA (by decide), fun h => hE (updL_f h), fun h => hF (updL_ne h (by decide)), fun h => f0 (updL_ne h (by decide)), fun h => f1 (updL_ne h (by decide)), fun h => f2 (updL_ne h (by decide)), fun h => f3 (updL_ne h (by decide)), fun h => f4 (updL_ne h (by decide)), fun _ => rfl, fun h => f6 (updL_ne h (by decide)), fun h => f7 (updL_ne h (by decide)), fun h => f8 (updL_ne h (by decide)), fun h => f9 (updL_ne h (by decide)), fun h => absurd (updL_ne h (by decide)) (by rw [h10]; decide), fun h => f11 (updL_ne h (by decide))⟩⟩
    case s6 =>
      intro l a' w' hk hpre hJ K hK
      obtain ⟨x0, x1, x2, x3, x4, x5, x6, x7, x8, x9, x10, x11, x12, ha, hall, hfin, hfs⟩ := hJ
      have h12 : l 12 = false := upd_last hall hk (by decide)
      clear hall hfin
      obtain ⟨hA, hE, hF, f0, f1, f2, f3, f4, f5, f6, f7, f8, f9, f10, f11⟩ := hfs h12
      clear hfs
      have p5 : l 5 = true := hpre 5 (by kernel_rfl)
      have h10 : l 10 = false := upd_last hA hk (by decide)
      have hw := (hE h10).out
      obtain rfl := f5 p5
      have q : w'.cell? ⟨w.heap.size, 1, none⟩ = some (.string x.name) := by rw [hw]; exact q3.out
      clear hw
      subst ha
      go_simp
      exact hK.out _ _ ⟨x0, x1, x2, x3, x4, .pointer (some ⟨w.heap.size, 1, none⟩), .string x.name, x7, x8, x9, x10, x11, x12, by kernel_rfl, fun h => absurd (updL_ne h (by decide)) (by rw [h12]; decide), fun h => absurd (updL_ne h (by decide)) (by rw [h12]; decide), fun _ => ⟨updL_all hA (by decide), fun h => hE (updL_f h), fun h => hF (updL_ne h (by decide)), fun h => f0 (updL_ne h (by decide)), fun h => f1 (updL_ne h (by decide)), fun h => f2 (updL_ne h (by decide)), fun h => f3 (updL_ne h (by decide)), fun h => f4 (updL_ne h (by decide)), fun h => f5 (updL_ne h (by decide)), fun _ => rfl, fun h => f7 (updL_ne h (by decide)), fun h => f8 (updL_ne h (by decide)), fun h => f9 (updL_ne h (by decide)), fun h => absurd (updL_ne h (by decide)) (by rw [h10]; decide), fun h => f11 (updL_ne h (by decide))⟩⟩
    case s7 =>
      intro l a' w' hk hpre hJ K hK
      obtain ⟨x0, x1, x2, x3, x4, x5, x6, x7, x8, x9, x10, x11, x12, ha, hall, hfin, hfs⟩ := hJ
      have h12 : l 12 = false := upd_last hall hk (by decide)
      clear hall hfin
      obtain ⟨hA, hE, hF, f0, f1, f2, f3, f4, f5, f6, f7, f8, f9, f10, f11⟩ := hfs h12
      clear hfs
      have h10 : l 10 = false := upd_last hA hk (by decide)

      subst ha
      go_simp
      exact hK.out _ _ ⟨x0, x1, x2, x3, x4, x5, x6, .pointer (some ⟨w.heap.size + 1, 1, none⟩), x8, x9, x10, x11, x12, by kernel_rfl, fun h => absurd (updL_ne h (by decide)) (by rw [h12]; decide), fun h => absurd (updL_ne h (by decide)) (by rw [h12]; decide), fun _ => ⟨updL_all hA (by decide), fun h => hE (updL_f h), fun h => hF (updL_ne h (by decide)), fun h => f0 (updL_ne h (by decide)), fun h => f1 (updL_ne h (by decide)), fun h => f2 (updL_ne h (by decide)), fun h => f3 (updL_ne h (by decide)), fun h => f4 (updL_ne h (by decide)), fun h => f5 (updL_ne h (by decide)), fun h => f6 (updL_ne h (by decide)), fun _ => rfl, fun h => f8 (updL_ne h (by decide)), fun h => f9 (updL_ne h (by decide)), fun h => absurd (updL_ne h (by decide)) (by rw [h10]; decide), fun h => f11 (updL_ne h (by decide))⟩⟩
    case s8 =>
      intro l a' w' hk hpre hJ K hK
      obtain ⟨x0, x1, x2, x3, x4, x5, x6, x7, x8, x9, x10, x11, x12, ha, hall, hfin, hfs⟩ := hJ
      have h12 : l 12 = false := upd_last hall hk (by decide)
      clear hall hfin
      obtain ⟨hA, hE, hF, f0, f1, f2, f3, f4, f5, f6, f7, f8, f9, f10, f11⟩ := hfs h12
      clear hfs
      have p7 : l 7 = true := hpre 7 (by kernel_rfl)
      have h10 : l 10 = false := upd_last hA hk (by decide)
      have hw := (hE h10).out
      obtain rfl := f7 p7
      have q : w'.cell? ⟨w.heap.size + 1, 1, none⟩ = some (.string y.name) := by rw [hw]; exact q4.out
      clear hw
      subst ha
      go_simp
      exact hK.out _ _ ⟨x0, x1, x2, x3, x4, x5, x6, .pointer (some ⟨w.heap.size + 1, 1, none⟩), .string y.name, x9, x10, x11, x12, by kernel_rfl, fun h => absurd (updL_ne h (by decide)) (by rw [h12]; decide), fun h => absurd (updL_ne h (by decide)) (by rw [h12]; decide), fun _ => ⟨updL_all hA (by decide), fun h => hE (updL_f h), fun h => hF (updL_ne h (by decide)), fun h => f0 (updL_ne h (by decide)), fun h => f1 (updL_ne h (by decide)), fun h => f2 (updL_ne h (by decide)), fun h => f3 (updL_ne h (by decide)), fun h => f4 (updL_ne h (by decide)), fun h => f5 (updL_ne h (by decide)), fun h => f6 (updL_ne h (by decide)), fun h => f7 (updL_ne h (by decide)), fun _ => rfl, fun h => f9 (updL_ne h (by decide)), fun h => absurd (updL_ne h (by decide)) (by rw [h10]; decide), fun h => f11 (updL_ne h (by decide))⟩⟩
    case s9 =>
      intro l a' w' hk hpre hJ K hK
      obtain ⟨x0, x1, x2, x3, x4, x5, x6, x7, x8, x9, x10, x11, x12, ha, hall, hfin, hfs⟩ := hJ
      have h12 : l 12 = false := upd_last hall hk (by decide)
      clear hall hfin
      obtain ⟨hA, hE, hF, f0, f1, f2, f3, f4, f5, f6, f7, f8, f9, f10, f11⟩ := hfs h12
      clear hfs
      have p6 : l 6 = true := hpre 6 (by kernel_rfl)
      have p8 : l 8 = true := hpre 8 (by kernel_rfl)
      have h10 : l 10 = false := upd_last hA hk (by decide)
      obtain rfl := f6 p6
      obtain rfl := f8 p8

      subst ha
      go_simp
      go_at_call 124
      refine Calls.mono (t_CmpS _ _ _) ?_
      rintro en w2 ⟨rfl, hw2⟩
      obtain rfl := hw2.symm
      exact hK.out _ _ ⟨x0, x1, x2, x3, x4, x5, .string x.name, x7, .string y.name, .int .i64 (cmpB x.name.data.toList y.name.data.toList), x10, x11, x12, by kernel_rfl, fun h => absurd (updL_ne h (by decide)) (by rw [h12]; decide), fun h => absurd (updL_ne h (by decide)) (by rw [h12]; decide), fun _ => ⟨updL_all hA (by decide), fun h => hE (updL_f h), fun h => hF (updL_ne h (by decide)), fun h => f0 (updL_ne h (by decide)), fun h => f1 (updL_ne h (by decide)), fun h => f2 (updL_ne h (by decide)), fun h => f3 (updL_ne h (by decide)), fun h => f4 (updL_ne h (by decide)), fun h => f5 (updL_ne h (by decide)), fun h => f6 (updL_ne h (by decide)), fun h => f7 (updL_ne h (by decide)), fun h => f8 (updL_ne h (by decide)), fun _ => rfl, fun h => absurd (updL_ne h (by decide)) (by rw [h10]; decide), fun h => f11 (updL_ne h (by decide))⟩⟩
    case s10 =>
      intro l a' w' hk hpre hJ K hK
      obtain ⟨x0, x1, x2, x3, x4, x5, x6, x7, x8, x9, x10, x11, x12, ha, hall, hfin, hfs⟩ := hJ
      have h12 : l 12 = false := upd_last hall hk (by decide)
      clear hall hfin
      obtain ⟨hA, hE, hF, f0, f1, f2, f3, f4, f5, f6, f7, f8, f9, f10, f11⟩ := hfs h12
      clear hfs
      have p4 : l 4 = true := hpre 4 (by kernel_rfl)
      have p9 : l 9 = true := hpre 9 (by kernel_rfl)
      obtain rfl := f4 p4
      obtain rfl := f9 p9

      subst ha
      go_simp
      exact hK.out _ _ ⟨x0, x1, x2, x3, .int .i64 (cmpI x.pos y.pos), x5, x6, x7, x8, .int .i64 (cmpB x.name.data.toList y.name.data.toList), .slice (some ⟨w'.heap.size, 0, none⟩) 2 2, x11, x12, by kernel_rfl, fun h => absurd (updL_ne h (by decide)) (by rw [h12]; decide), fun h => absurd (updL_ne h (by decide)) (by rw [h12]; decide), fun _ => ⟨fun _ => deep_all hpre (by kernel_rfl) _, fun h => absurd h (by rw [updL_self]; decide), fun _ => hide (by rw [(hE hk).out]), fun h => f0 (updL_ne h (by decide)), fun h => f1 (updL_ne h (by decide)), fun h => f2 (updL_ne h (by decide)), fun h => f3 (updL_ne h (by decide)), fun h => f4 (updL_ne h (by decide)), fun h => f5 (updL_ne h (by decide)), fun h => f6 (updL_ne h (by decide)), fun h => f7 (updL_ne h (by decide)), fun h => f8 (updL_ne h (by decide)), fun h => f9 (updL_ne h (by decide)), fun _ => ⟨_, rfl, heap_alloc_new w' _⟩, fun h => f11 (updL_ne h (by decide))⟩⟩
    case s11 =>
      intro l a' w' hk hpre hJ K hK
      obtain ⟨x0, x1, x2, x3, x4, x5, x6, x7, x8, x9, x10, x11, x12, ha, hall, hfin, hfs⟩ := hJ
      have h12 : l 12 = false := upd_last hall hk (by decide)
      clear hall hfin
      obtain ⟨hA, hE, hF, f0, f1, f2, f3, f4, f5, f6, f7, f8, f9, f10, f11⟩ := hfs h12
      clear hfs
      have p10 : l 10 = true := hpre 10 (by kernel_rfl)
      obtain ⟨g, rfl, hg⟩ := f10 p10
      replace hA := hide hA
      subst ha
      go_simp
      go_at_call 122
      refine Calls.mono (t_Or _ _ g _ _ hg) ?_
      rintro en w2 ⟨he, hw2⟩
      obtain rfl : en = .returned (.int .i64 (cmpO x y)) := he
      obtain rfl := hw2.symm
      exact hK.out _ _ ⟨x0, x1, x2, x3, x4, x5, x6, x7, x8, x9, .slice (some ⟨g, 0, none⟩) 2 2, .int .i64 (cmpO x y), x12, by kernel_rfl, fun h => absurd (updL_ne h (by decide)) (by rw [h12]; decide), fun h => absurd (updL_ne h (by decide)) (by rw [h12]; decide), fun _ => ⟨updL_all hA.out (by decide), fun h => hE (updL_f h), fun h => hF (updL_ne h (by decide)), fun h => f0 (updL_ne h (by decide)), fun h => f1 (updL_ne h (by decide)), fun h => f2 (updL_ne h (by decide)), fun h => f3 (updL_ne h (by decide)), fun h => f4 (updL_ne h (by decide)), fun h => f5 (updL_ne h (by decide)), fun h => f6 (updL_ne h (by decide)), fun h => f7 (updL_ne h (by decide)), fun h => f8 (updL_ne h (by decide)), fun h => f9 (updL_ne h (by decide)), fun h => (f10 (updL_ne h (by decide))), fun _ => rfl⟩⟩
    case s12 =>
      intro l a' w' hk hpre hJ K hK
      obtain ⟨x0, x1, x2, x3, x4, x5, x6, x7, x8, x9, x10, x11, x12, ha, hall, hfin, hfs⟩ := hJ
      have h12 : l 12 = false := hk
      clear hall hfin
      obtain ⟨hA, hE, hF, f0, f1, f2, f3, f4, f5, f6, f7, f8, f9, f10, f11⟩ := hfs h12
      clear hfs
      have p10 : l 10 = true := hpre 10 (by kernel_rfl)
      have p11 : l 11 = true := hpre 11 (by kernel_rfl)
      have hF1 := hF p10
      clear hA hE hF
      obtain rfl := f11 p11

      subst ha
      go_simp
      exact hK.out _ _ ⟨x0, x1, x2, x3, x4, x5, x6, x7, x8, x9, x10, .int .i64 (cmpO x y), .int .i64 (cmpO x y), by kernel_rfl, fun _ => deep_all hpre (by kernel_rfl) _, fun _ => ⟨rfl, hF1.out⟩, fun h => absurd h (by simp [updL])⟩
  case hend =>
    intro l a' w' hl hJ
    obtain ⟨x0, x1, x2, x3, x4, x5, x6, x7, x8, x9, x10, x11, x12, ha, _, hfin, _⟩ := hJ
    simp [go_sem] at ha
    subst ha
    replace hfin := hfin (hl 12 (by decide))
    clear hl
    obtain ⟨rfl, rfl⟩ := hfin
    go_wp2_with fail
    go_ret
    refine ⟨rfl, 1, #[.cells #[.int .i64 x.pos, .string x.name] 81, .cells #[.int .i64 y.pos, .string y.name] 81, .cells #[.int .i64 (cmpI x.pos y.pos), .int .i64 (cmpB x.name.data.toList y.name.data.toList)] 3], ?_⟩
    rw [Hv.out]
    change ((w.drew.alloc _).alloc _).alloc _ = _
    rw [Sort.alloc_eq_grow, Sort.alloc_eq_grow, Sort.alloc_eq_grow, Sort.grow_grow, Sort.grow_grow]
    rfl
end Go.Proofs.YthlhhnnlbpecnaaGreat

/- slices.Compact at occurrences: neighbours that are equal taken once, in place. Conditions: at most 2^20 of them. -/
namespace Go.Proofs.YthlhhnnlbpecnaaGreat
set_option linter.unusedSimpArgs false
set_option linter.unusedVariables false
set_option maxRecDepth 100000
open Go.RowKit Go.WideShapes
set_option linter.unusedVariables false

/-- Occurrences one behind another from the block's first cell on. -/
def RowO (w : World) (g : Nat) (d : Array Occ) : Prop := ∃ cur : Array Value, w.heap[g]? = some (.cells cur 81 (0, 0)) ∧ d.size * 2 ≤ cur.size ∧ ∀ j, j < d.size → cur[j * 2]? = some (.int .i64 d[j]!.pos) ∧ cur[j * 2 + 1]? = some (.string d[j]!.name)
theorem RowO.cell {w : World} {g : Nat} {d : Array Occ} (h : RowO w g d) {j : Nat} (hj : j < d.size) : w.cell? ⟨g, j * 2, none⟩ = some (.int .i64 d[j]!.pos) ∧ w.cell? ⟨g, j * 2 + 1, none⟩ = some (.string d[j]!.name) := by
  obtain ⟨cur, hb, _, h⟩ := h
  obtain ⟨h1, h2⟩ := h j hj
  rw [cell_of_row _ _ _ _ _ _ hb, cell_of_row _ _ _ _ _ _ hb]
  exact ⟨h1, h2⟩
theorem RowO.drew {w : World} {g : Nat} {d : Array Occ} (h : RowO w g d) : RowO w.drew g d := h
theorem RowO.below {w w' : World} {g B : Nat} {d : Array Occ} (h : RowO w g d) (hb : Below B w w') (hg : g < B) : RowO w' g d := by
  obtain ⟨cur, h1, h2⟩ := h
  exact ⟨cur, blk_below h1 hb hg, h2⟩
theorem RowO.put {w w' : World} {g kk : Nat} {d : Array Occ} {u : Occ} {old : Array Value} (h : RowO w g d) (ho : w.heap[g]? = some (.cells old 81 (0, 0))) (hP : Put w g (kk * 2) [.int .i64 u.pos, .string u.name] old 81 w') : RowO w' g (d.setIfInBounds kk u) := by
  obtain ⟨cur, h1, h2, h3⟩ := h
  rw [ho] at h1
  injection h1 with h1
  injection h1 with h1
  subst h1
  obtain ⟨cs, hb, hz, hout, hin⟩ := hP.blk
  refine ⟨cs, hb, by rw [Array.size_setIfInBounds, hz]; exact h2, fun j hj => ?_⟩
  rw [Array.size_setIfInBounds] at hj
  by_cases e : j = kk
  · subst e
    rw [Sort.getElem!_set_same d j u hj]
    have i0 := hin 0 _ rfl
    have i1 := hin 1 _ rfl
    exact ⟨by simpa using i0, i1⟩
  · rw [Sort.getElem!_set_other d kk j u e, hout (j * 2) (by simp; omega), hout (j * 2 + 1) (by simp; omega)]
    exact h3 j hj
theorem eqlO (x y : Occ) (b : Bool) (h : decide (x = y) = b) (W : World) : (binOp .eql 81 (.agg #[.int .i64 x.pos, .string x.name]) (.agg #[.int .i64 y.pos, .string y.name])).run Tryz.prog W = .ok (.bool b) W := by
  rw [run_eqlOcc]
  congr 2
  rw [← h]
  by_cases e : x = y
  · subst e
    simp
  · rw [decide_eq_false e]
    rw [Bool.and_eq_false_iff]
    by_cases hp : x.pos = y.pos
    · right
      rw [beq_eq_false_iff_ne, Lib.toList_data, Lib.toList_data]
      exact fun q => e (Occ.ext' hp q)
    · left
      exact beq_eq_false_iff_ne.2 hp
theorem neqO (x y : Occ) (b : Bool) (h : decide (x = y) = b) (W : World) : (binOp .neq 81 (.agg #[.int .i64 x.pos, .string x.name]) (.agg #[.int .i64 y.pos, .string y.name])).run Tryz.prog W = .ok (.bool !b) W := by
  have h1 := eqlO x y b h W
  rw [run_eqlOcc] at h1
  rw [run_neqOcc]
  injection h1 with h1
  injection h1 with h1
  rw [h1]
theorem run_clearO (w : World) (g o n c : Nat) (old : Array Value) (hg : w.heap[g]? = some (.cells old 81 (0, 0))) (hfit : o + n * 2 ≤ old.size) :
    ∃ w', (∀ ty, (Builtin.clear_ #[79] ty #[.slice (some ⟨g, o, none⟩) n c]).run Tryz.prog w = .ok (.tuple #[]) w') ∧ w.grownBy w' (some g) ∧ ∃ cur : Array Value, w'.heap[g]? = some (.cells cur 81 (0, 0)) ∧ ∀ i, i < o → cur[i]? = old[i]? := by
  cases n with
  | zero =>
    refine ⟨w, fun ty => ?_, ⟨rfl, rfl, rfl, Nat.le_refl _, fun _ _ _ => rfl⟩, old, hg, fun _ _ => rfl⟩
    simp [Builtin.clear_, run_underlying Tryz.underlying79]
  | succ m =>
    have hz := Tryz.zeroValue81
    obtain ⟨z, hzE⟩ : ∃ z : Value, z = .agg #[.int .i64 0, .string ByteArray.empty] := ⟨_, rfl⟩
    have hzc : z.cells.size = 2 := by rw [hzE]; rfl
    have hz1 : ∀ u ∈ z.cells.toList, u.oneCell' = true := by rw [hzE]; intro u hu; simp [Value.cells] at hu; rcases hu with rfl | rfl <;> rfl
    have hzv : ∀ w, (zeroValue 81).run Tryz.prog w = .ok z w := by rw [hzE]; exact hz
    obtain ⟨news, hnews⟩ : ∃ news, news = (Builtin.zeroCells z.cells (m + 1)).toList := ⟨_, rfl⟩
    have hlen : news.length = (m + 1) * 2 := by rw [hnews]; simp [Builtin.zeroCells, hzc]
    have h1 : ∀ u ∈ news, u.oneCell' = true := by
      intro u hu
      rw [hnews] at hu
      simp only [Builtin.zeroCells, Array.toList_map, List.mem_map, Array.mem_toList_iff, Array.mem_range] at hu
      obtain ⟨i, hi, rfl⟩ := hu
      refine hz1 _ ?_
      have hlt : i % z.cells.size < z.cells.size := Nat.mod_lt _ (by omega)
      rw [getElem!_pos z.cells _ hlt]
      simp
    have hst := run_storeCells_at Tryz.prog g o 81 news 0 old w hg (by omega) h1
    simp only [Nat.add_zero] at hst
    have hP := Put.of_row (w := w) (cs := news) hg (show o + news.length ≤ old.size by omega)
    obtain ⟨cs, hb, hz, hout, hin⟩ := hP.blk
    refine ⟨_, fun ty => ?_, ⟨hP.os, hP.tape, hP.output, Nat.le_of_eq hP.size.symm, fun k _ hk => hP.far k (fun e => hk (by rw [e]))⟩, cs, hb, fun i hi => hout i (.inl hi)⟩
    simp [Builtin.clear_, run_underlying Tryz.underlying79, hzv, ← hnews, hst]
end Go.Proofs.YthlhhnnlbpecnaaGreat
