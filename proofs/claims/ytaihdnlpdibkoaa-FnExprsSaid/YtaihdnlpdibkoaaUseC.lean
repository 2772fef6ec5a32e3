/- The program's walk over all nodes, its closure gathering the uses. Conditions: at most 2^20 uses. -/
import Derived.Test.YtaihdnlpdibkoaaUseB
namespace Go.Proofs.Ytaihdnlpdibkoaa
set_option maxRecDepth 100000
open Go.RowKit Go.WideShapes
set_option linter.unusedVariables false

theorem flat_le {d : Nat} {l : List Ex} {j : Nat} {x : Ex} (hx : l[j]? = some x) : (((l.take j).map (usesE d)).flatten).length + (usesE d x).length ≤ ((l.map (usesE d)).flatten).length := by
  have h : l = l.take j ++ x :: l.drop (j + 1) := by
    have h1 := List.take_append_drop j l
    have h2 : l.drop j = x :: l.drop (j + 1) := by
      obtain ⟨hj, e⟩ := List.getElem?_eq_some_iff.1 hx
      rw [List.drop_eq_getElem_cons hj, e]
    rw [h2] at h1
    exact h1.symm
  have h2 : ((l.map (usesE d)).flatten).length = (((l.take j ++ x :: l.drop (j + 1)).map (usesE d)).flatten).length := by rw [← h]
  rw [h2, List.map_append, List.map_cons, List.flatten_append, List.flatten_cons, List.length_append, List.length_append]
  omega
theorem flat_snoc {d : Nat} {l : List Ex} {j : Nat} {x : Ex} (hx : l[j]? = some x) : ((l.take (j + 1)).map (usesE d)).flatten = ((l.take j).map (usesE d)).flatten ++ usesE d x := by
  rw [take_snoc hx]
  simp
def EvN_use (B bo d : Nat) : Prop := ∀ (e : Ex) (cs : List Value) (F : List Nat) (w : World) (v : Value) (xs : List Occ), ExR d w e cs F → (∀ k ∈ F, k < B) → B ≤ w.heap.size → St B bo w v xs → xs.length + (usesE d e).length ≤ 2097152 →
  Calls Try.prog 58 #[.agg cs.toArray, .func (.func 59) #[] #[.pointer (some ⟨bo, 0, none⟩)]] w fun en w' => en = .returned (.bool true) ∧ ∃ v', Acc B bo w v w' v' (xs ++ usesE d e)
set_option maxRecDepth 100000 in
set_option maxHeartbeats 2000000 in
theorem clo1_use {B bo d : Nat} (hE : EvN_use B bo d) (e : Ex) (cs : List Value) (F : List Nat) (w : World) (v : Value) (xs : List Occ) (Bp : Nat) (h : ExR d w e cs F) (hc : w.cell? ⟨Bp, 0, none⟩ = some (.func (.func 59) #[] #[.pointer (some ⟨bo, 0, none⟩)])) (hF : ∀ k ∈ F, k < B) (hB : B ≤ w.heap.size) (hs : St B bo w v xs) (hn : xs.length + (usesE d e).length ≤ 2097152) :
    Calls Try.prog 90 #[.agg cs.toArray, .pointer (some ⟨Bp, 0, none⟩)] w fun en w' => en = .returned (.bool false) ∧ ∃ v', Acc B bo w v w' v' (xs ++ usesE d e) := by
  match d, h with
  | d + 1, h =>
  obtain ⟨A, cap, rfl, hok, hl, hm, hsl⟩ := ex_form h
  have HR := hide h
  have HF := hide hF
  have HE := hide hE
  have HS := hide hs
  have Hn := hide hn
  obtain ⟨⟨k, n, p, t, s, m⟩, l⟩ := e
  have hlt := cell_lt hc
  simp only [Ex.args, Ex.h, ExH.cells] at HR
  show Calls _ _ #[.agg #[.int .i64 k, .int .i64 n, .int .i64 p, .int .i64 t, .string s, .string m, .slice A l.length cap], .pointer (some ⟨Bp, 0, none⟩)] w _
  generalize Ex.mk ⟨k, n, p, t, s, m⟩ l = e at HR Hn ⊢
  have Hb : Hid (Below w.heap.size w (w.alloc (.cells #[.int .i64 k, .int .i64 n, .int .i64 p, .int .i64 t, .string s, .string m, .slice A l.length cap] 52))) := hide ((Below.refl _ _).alloc (Nat.le_refl _) _)
  clear h hsl hok hl hm hE hs hn
  go_enter Try.func90, Try.ntmps90
  go_wp2_with fail
  refine Calls.mono (HE.out e _ F _ v xs ((ExR.good (d + 1)).below HR.out Hb.out (fun k hk => Nat.lt_of_lt_of_le (HF.out k hk) hB)) HF.out (Nat.le_trans hB Hb.out.size) (HS.out.below Hb.out) Hn.out) ?_
  rintro en w2 ⟨rfl, v2, hA⟩
  have HA := hide (hA.pre Hb.out)
  clear hA
  go_wp2_with fail
  go_ret
  exact ⟨rfl, _, HA.out⟩
set_option maxRecDepth 100000 in
set_option maxHeartbeats 2000000 in
theorem idx_use {B bo d : Nat} (hE : EvN_use B bo d) (l : List Ex) (A : Option Addr) (cap : Nat) (F : List Nat) (w : World) (v : Value) (xs : List Occ) (Bp : Nat) (hsl : SlR 7 (ExR d) w l (.slice A l.length cap) F) (hc : w.heap[Bp]? = some (.cells #[.func (.func 59) #[] #[.pointer (some ⟨bo, 0, none⟩)]] 62 (0, 0))) (hp1 : Bp ≠ bo) (hp2 : v.ownBlock ≠ some Bp) (hF : ∀ k ∈ F, k < B) (hB : B ≤ w.heap.size) (hbo : B ≤ bo) (hs : St B bo w v xs) (hn : xs.length + ((l.map (usesE d)).flatten).length ≤ 2097152) :
    Calls Try.prog 116 #[.slice A l.length cap, .func (.func 90) #[] #[.pointer (some ⟨Bp, 0, none⟩)]] w fun en w' => en = .returned (.int .i64 (-1)) ∧ ∃ v', Acc B bo w v w' v' (xs ++ (l.map (usesE d)).flatten) := by
  obtain ⟨_, hlc, hm⟩ := hsl.bnd
  unfold maxLen at hm
  have Hs := hide hsl
  have HE := hide hE
  have HS := hide hs
  have HF := hide hF
  have HFw : Hid (∀ k ∈ F, k < w.heap.size) := hide fun k hk => Nat.lt_of_lt_of_le (hF k hk) hB
  have hBlt := blk_lt hc
  have Hc := hide hc
  have Hn := hide hn
  have Hp1 := hide hp1
  have Hp2 := hide hp2
  clear hsl hE hc hs hF hn hp1 hp2
  go_enter Try.func116, Try.ntmps116
  go_wp2_with fail
  go_loopw [8] (fun i wr => ∃ (j : Nat) (v' : Value), j ≤ l.length ∧ i = .int .i64 j ∧ Hid (Acc B bo w v wr v' (xs ++ ((l.take j).map (usesE d)).flatten))) (fun i _ => l.length - (intOf i).toNat)
  case atStart => exact ⟨0, v, by omega, rfl, hide (by simpa using Acc.refl HS.out)⟩
  case round =>
    obtain ⟨j, v', hj, rfl, HA⟩ := hrel
    have hdn := HA.out.down HS.out hbo hB
    have hz := hdn.size
    by_cases hlt : j < l.length
    · have hx : l[j]? = some l[j] := List.getElem?_eq_getElem hlt
      generalize l[j] = x at hx
      have Hx := hide hx
      obtain ⟨b, off, A', cap', Fk, hA, hbF, hFk, _, hl', hm', hcat, hR⟩ := ex_get (Hs.out.below (ExR.good d) hdn HF.out) hx
      subst hA
      obtain ⟨e0, e1, e2, e3, e4, e5, e6⟩ := hcat.seven
      have hblt : b < wr.heap.size := Nat.lt_of_lt_of_le (HFw.out b hbF) hz
      have HR := hide hR
      have HFk : Hid (∀ i ∈ Fk, i < B) := hide fun i hi => HF.out i (hFk i hi)
      have Hcw : Hid (wr.cell? ⟨Bp, 0, none⟩ = some (.func (.func 59) #[] #[.pointer (some ⟨bo, 0, none⟩)])) := hide (by
        have h1 := (HA.out.keep Bp hBlt Hp1.out Hp2.out).trans Hc.out
        rw [cell_of_row _ _ _ _ _ _ h1]
        rfl)
      have HBr : Hid (B ≤ wr.heap.size) := hide (Nat.le_trans hB hz)
      have Hnx : Hid ((xs ++ ((l.take j).map (usesE d)).flatten).length + (usesE d x).length ≤ 2097152) := hide (by
        have h1 := flat_le (d := d) hx
        have h2 := Hn.out
        rw [List.length_append]
        omega)
      clear hx hR hcat hFk hbF hl' hm' hdn
      go_wp2_with fail
      refine Calls.mono (clo1_use HE.out x _ Fk _ v' _ Bp HR.out Hcw.out HFk.out HBr.out HA.out.st Hnx.out) ?_
      rintro en w2 ⟨rfl, v2, hA2⟩
      have HA2 : Hid (Acc B bo w v w2 v2 (xs ++ ((l.take (j + 1)).map (usesE d)).flatten)) := hide (by
        rw [flat_snoc Hx.out, ← List.append_assoc]
        exact HA.out.trans hA2)
      clear hA2
      go_wp2_with fail
      go_roundw
      case rel => exact ⟨j + 1, v2, by omega, by go_num, HA2⟩
      case measure => simp [intOf]; omega
    · have hjl : j = l.length := by omega
      have HA2 : Hid (Acc B bo w v wr v' (xs ++ (l.map (usesE d)).flatten)) := hide (by have := HA.out; rw [hjl, List.take_length] at this; exact this)
      clear hdn
      go_wp2_with fail
      go_ret
      exact ⟨rfl, _, HA2.out⟩
set_option maxRecDepth 100000 in
set_option maxHeartbeats 2000000 in
theorem con_use {B bo d : Nat} (hE : EvN_use B bo d) (l : List Ex) (A : Option Addr) (cap : Nat) (F : List Nat) (w : World) (v : Value) (xs : List Occ) (Bp : Nat) (hsl : SlR 7 (ExR d) w l (.slice A l.length cap) F) (hc : w.heap[Bp]? = some (.cells #[.func (.func 59) #[] #[.pointer (some ⟨bo, 0, none⟩)]] 62 (0, 0))) (hp1 : Bp ≠ bo) (hp2 : v.ownBlock ≠ some Bp) (hF : ∀ k ∈ F, k < B) (hB : B ≤ w.heap.size) (hbo : B ≤ bo) (hs : St B bo w v xs) (hn : xs.length + ((l.map (usesE d)).flatten).length ≤ 2097152) :
    Calls Try.prog 89 #[.slice A l.length cap, .func (.func 90) #[] #[.pointer (some ⟨Bp, 0, none⟩)]] w fun en w' => en = .returned (.bool false) ∧ ∃ v', Acc B bo w v w' v' (xs ++ (l.map (usesE d)).flatten) := by
  have HI := hide (idx_use hE l A cap F w v xs Bp hsl hc hp1 hp2 hF hB hbo hs hn)
  clear hE hsl hc hp1 hp2 hF hB hbo hs hn
  go_enter Try.func89, Try.ntmps89
  go_wp2_with fail
  refine Calls.mono HI.out ?_
  rintro en w2 ⟨rfl, v2, hA⟩
  have HA := hide hA
  clear hA
  go_wp2_with fail
  go_ret
  exact ⟨by first | rfl | simp, _, HA.out⟩
set_option maxRecDepth 100000 in
set_option maxHeartbeats 2000000 in
theorem evn_use {B bo : Nat} (hbo : B ≤ bo) : ∀ d, EvN_use B bo d
  | 0 => fun _ _ _ _ _ _ h => h.elim
  | d + 1 => fun e cs F w v xs h hF hB hs hn => by
    have HP : Hid (∀ W : World, Below w.heap.size w W → Calls Try.prog 59 #[.agg cs.toArray, .pointer (some ⟨bo, 0, none⟩)] W fun en w' => en = .returned (.bool true) ∧ ∃ v', Acc B bo W v w' v' (xs ++ useH e.h)) := hide fun W hW =>
      clo_use e cs F W ((ExR.good (d + 1)).below h hW (fun k hk => Nat.lt_of_lt_of_le (hF k hk) hB)) (hs.below hW) (Nat.le_trans hB hW.size) (by simp only [usesE, List.length_append] at hn; omega)
    obtain ⟨A, cap, rfl, hok, hl, hm, hsl⟩ := ex_form h
    have HF := hide hF
    have HS := hide hs
    have hbl := hs.lt
    have Hv : Hid (∀ k, v.ownBlock = some k → k < w.heap.size) := hide fun k hk => (hs.own.blk k hk).2
    have Hq : Hid (usesE (d + 1) e = useH e.h ++ (e.args.map (usesE d)).flatten) := hide rfl
    have Hsl := hide hsl
    have HC : Hid (∀ (W : World) (v1 : Value) (Bp : Nat), Acc B bo w v W v1 (xs ++ useH e.h) → W.heap[Bp]? = some (.cells #[.func (.func 59) #[] #[.pointer (some ⟨bo, 0, none⟩)]] 62 (0, 0)) → Bp ≠ bo → v1.ownBlock ≠ some Bp →
        Calls Try.prog 89 #[.slice A e.args.length cap, .func (.func 90) #[] #[.pointer (some ⟨Bp, 0, none⟩)]] W fun en w' => en = .returned (.bool false) ∧ ∃ v', Acc B bo W v1 w' v' ((xs ++ useH e.h) ++ (e.args.map (usesE d)).flatten)) := hide fun W v1 Bp hW h1 h2 h3 =>
      con_use (evn_use hbo d) e.args A cap F W v1 _ Bp (Hsl.out.below (ExR.good d) (hW.down HS.out hbo hB) HF.out) h1 h2 h3 HF.out (Nat.le_trans hB hW.size) hbo hW.st (by
        simp only [usesE, List.length_append] at hn
        rw [List.length_append]
        omega)
    obtain ⟨⟨k, n, p, t, s, m⟩, l⟩ := e
    simp only [Ex.args, Ex.h, ExH.cells] at HP HC Hq
    have hu := Hq.out
    rw [hu, ← List.append_assoc]
    generalize useH ⟨k, n, p, t, s, m⟩ = us at HP HC
    show Calls _ _ #[.agg #[.int .i64 k, .int .i64 n, .int .i64 p, .int .i64 t, .string s, .string m, .slice A l.length cap], .func (.func 59) #[] #[.pointer (some ⟨bo, 0, none⟩)]] w _
    clear hsl hok h hl hm hu Hq hF hs hn Hsl
    have hb1 : Below w.heap.size w (w.alloc (.cells #[.int .i64 k, .int .i64 n, .int .i64 p, .int .i64 t, .string s, .string m, .slice A l.length cap] 52)) := (Below.refl _ _).alloc (Nat.le_refl _) _
    have z1 := heap_alloc_new w (.cells #[.int .i64 k, .int .i64 n, .int .i64 p, .int .i64 t, .string s, .string m, .slice A l.length cap] 52)
    have z2 := heap_alloc_new (w.alloc (.cells #[.int .i64 k, .int .i64 n, .int .i64 p, .int .i64 t, .string s, .string m, .slice A l.length cap] 52)) (.cells #[.func (.func 59) #[] #[.pointer (some ⟨bo, 0, none⟩)]] 62)
    rw [World.size_alloc] at z2
    have hb2 : Below w.heap.size w ((w.alloc (.cells #[.int .i64 k, .int .i64 n, .int .i64 p, .int .i64 t, .string s, .string m, .slice A l.length cap] 52)).alloc (.cells #[.func (.func 59) #[] #[.pointer (some ⟨bo, 0, none⟩)]] 62)) := hb1.alloc hb1.size _
    have z1' := ((Below.refl (w.heap.size + 1) (w.alloc (.cells #[.int .i64 k, .int .i64 n, .int .i64 p, .int .i64 t, .string s, .string m, .slice A l.length cap] 52))).alloc (by simp) (.cells #[.func (.func 59) #[] #[.pointer (some ⟨bo, 0, none⟩)]] 62)).block w.heap.size (by omega)
    rw [z1] at z1'
    have HZ1 := hide z1'
    have HZ2 := hide z2
    have Hb2 := hide hb2
    clear hb1 z1 z2 hb2 z1'
    go_enter Try.func58, Try.ntmps58
    go_wp2_with fail
    refine Calls.mono (HP.out _ Hb2.out) ?_
    rintro en w2 ⟨rfl, v2, hA⟩
    have y1 := hA.box HS.out HZ1.out (Nat.le_refl _)
    have y2 := hA.box HS.out HZ2.out (by omega)
    have c6 := cell_at (i := 6) y1 (by simp)
    have HA := hide (hA.pre Hb2.out)
    have Hy2 := hide y2
    have Hnv : Hid (v2.ownBlock ≠ some (w.heap.size + 1)) := hide fun e => by
      rcases hA.wher _ e with e | e
      · have := Hv.out _ e; omega
      · have := blk_lt HZ2.out; omega
    clear hA y1 y2
    go_wp2_with fail
    refine Calls.mono (HC.out _ _ _ HA.out Hy2.out (by omega) Hnv.out) ?_
    rintro en w3 ⟨rfl, v3, hA3⟩
    have HA3 := hide (HA.out.trans hA3)
    clear hA3
    go_wp2_with fail
    go_ret
    exact ⟨by first | rfl | simp, _, HA3.out⟩
end Go.Proofs.Ytaihdnlpdibkoaa
