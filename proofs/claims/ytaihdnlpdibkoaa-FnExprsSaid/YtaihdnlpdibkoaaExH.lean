/- DrawIsValidExpr; two lists of occurrences told the same. Conditions: the bytes drawn from can be read. -/
import Derived.Test.YtaihdnlpdibkoaaExG
import Derived.Test.YtaihdnlpdibkoaaUseH
import Derived.Test.YtaihdnlpdibkoaaUseK
import Derived.Deep.QuietTactic
namespace Go.Proofs.Ytaihdnlpdibkoaa
set_option maxRecDepth 100000
open Go.RowKit Go.WideShapes
set_option linter.unusedVariables false

set_option maxRecDepth 100000 in
set_option maxHeartbeats 2000000 in
theorem s_DrawIsValidExpr (A : Option Addr) (n c : Nat) (zs : List Int) (w : World) (hr : Rd w w.heap.size A n (zs.map (Value.int .u8))) (hz : ∀ z ∈ zs, (Lit.int .u8 z).wf = true) (hn : n ≤ 1048576) :
    Calls Try.prog 25 #[.slice A n c] w fun en w' => ∃ (e : Ex) (us : List Value) (G : List Nat), en = .returned (.agg (List.toArray us)) ∧ ExR 11 w' e us G ∧ bulkE 11 e ≤ 20000 ∧ Below w.heap.size w w' := by
  have Hi : Hid ((Try.prog.info? 52).map (·.size) = some 7) := hide (by kernel_rfl)
  have hb0 : Below w.heap.size w (w.alloc (.cells #[.int .i64 0, .int .i64 0, .int .i64 0, .int .i64 0, .string ⟨#[]⟩, .string ⟨#[]⟩, .slice none 0 0] 52)) := (Below.refl _ _).alloc (Nat.le_refl _) _
  have hz0 := heap_alloc_new w (.cells #[.int .i64 0, .int .i64 0, .int .i64 0, .int .i64 0, .string ⟨#[]⟩, .string ⟨#[]⟩, .slice none 0 0] 52)
  have hs0 := World.size_alloc w (.cells #[.int .i64 0, .int .i64 0, .int .i64 0, .int .i64 0, .string ⟨#[]⟩, .string ⟨#[]⟩, .slice none 0 0] 52)
  have hr1 := hr.below hb0
  have hr0 : Rd (w.alloc (.cells #[.int .i64 0, .int .i64 0, .int .i64 0, .int .i64 0, .string ⟨#[]⟩, .string ⟨#[]⟩, .slice none 0 0] 52)) (w.alloc (.cells #[.int .i64 0, .int .i64 0, .int .i64 0, .int .i64 0, .string ⟨#[]⟩, .string ⟨#[]⟩, .slice none 0 0] 52)).heap.size A n (zs.map (Value.int .u8)) := ⟨hr1.1, fun h => by
    obtain ⟨b, off, e, hlt, hc⟩ := hr1.2 h
    exact ⟨b, off, e, by rw [hs0]; omega, hc⟩⟩
  clear hr1
  clear hr
  go_enter Try.func25, Try.ntmps25
  go_wp2_with fail
  generalize w.alloc (.cells #[.int .i64 0, .int .i64 0, .int .i64 0, .int .i64 0, .string ⟨#[]⟩, .string ⟨#[]⟩, .slice none 0 0] 52) = W0 at hb0 hz0 hs0 hr0 ⊢
  refine (s_l1New A n c zs W0 hr0 hz hn).mono ?_
  rintro en w1 ⟨rfl, hc1, hb1, hl1⟩
  rw [hs0] at hc1 hl1
  have Hz1 := hide (blk_below hz0 hb1 (blk_lt hz0))
  have Hb1 := hide (hb0.trans (hb1.mono (by omega)))
  have Hc1 := hide hc1
  clear hr0 hz hc1 hb1 hb0 hz0
  go_wp2_with fail
  refine (s_l4Bent Hc1.out).mono ?_
  rintro en w2 ⟨e, us, G, rfl, hR, hbk, hg, hGf⟩
  have hb2 : Below (w.heap.size + 1) w1 w2 := below_grown hg hl1
  have Hz2 := hide (blk_below Hz1.out hb2 (by omega))
  have Hb2 := hide (Hb1.out.trans (hb2.mono (by omega)))
  have H1 := hide (ExR.one hR)
  have Hn7 := hide ((ExR.good 11).len hR)
  have HR := hide hR
  obtain ⟨u0, u1, u2, u3, u4, u5, u6, rfl⟩ := list7 Hn7.out
  have HGf := hide hGf
  clear hR hg hb2 hGf
  go_wp2_with (refine wpList_store_at 52 (.tmp 2) (.tmp 5) (cs := [u0, u1, u2, u3, u4, u5, u6]) rfl Hi.out rfl rfl rfl rfl H1.out Hz2.out (by decide) ?_; intro WF hP; have HP := hide hP; clear hP)
  obtain ⟨x0, x1, x2, x3, x4, x5, x6⟩ := HP.out.cellsAt.seven0
  have hbF : Below w.heap.size w2 WF := HP.out.below (Nat.le_refl _)
  exact bodyPost_ret (v := .agg #[u0, u1, u2, u3, u4, u5, u6]) (by simp [results, Try.results25, go_sem, x0, x1, x2, x3, x4, x5, x6]) rfl
    ⟨e, [u0, u1, u2, u3, u4, u5, u6], G, rfl, (ExR.good 11).frame HR.out (fun k hk => HP.out.far k (by have := HGf.out k hk; omega)) (by rw [HP.out.size]; exact Nat.le_refl _), hbk, Hb2.out.trans hbF⟩
theorem s_same (D : Nat) (xs : List Occ) (v v' : Value) (F F' : List Nat) (w : World) (h : SlR 2 (OccR D) w xs v F) (h' : SlR 2 (OccR D) w xs v' F') :
    Calls Try.prog 32 #[v, v'] w fun en w' => en = .returned (.bool true) ∧ Below w.heap.size w w' := by
  obtain ⟨A, cap, rfl, hlc, hm⟩ := h.form
  obtain ⟨A', cap', rfl, hlc', hm'⟩ := h'.form
  unfold maxLen at hm hm'
  have HF := hide (h.lt (OccR.good D))
  have HF' := hide (h'.lt (OccR.good D))
  have Hh := hide h
  have Hh' := hide h'
  clear h h'
  go_enter Try.func32, Try.ntmps32
  go_wp2_with fail
  go_loopw [5] (fun i wr => ∃ j : Nat, j ≤ xs.length ∧ i = .int .i64 j ∧ Hid (Below w.heap.size w wr)) (fun i _ => xs.length - (intOf i).toNat)
  case atStart => exact ⟨0, by omega, rfl, hide (Below.refl _ _)⟩
  case round =>
    obtain ⟨j, hj, rfl, Hb⟩ := hrel
    by_cases hlt : j < xs.length
    · have hX : xs[j]? = some xs[j] := List.getElem?_eq_getElem hlt
      generalize xs[j] = y at hX
      obtain ⟨b, off, es, Fk, hA, _, hbF, _, hcl, hcat, hR⟩ := SlR.get (OccR.good D) (Hh.out.below (OccR.good D) Hb.out HF.out) hX
      obtain ⟨b', off', es', Fk', hA', _, hbF', _, hcl', hcat', hR'⟩ := SlR.get (OccR.good D) (Hh'.out.below (OccR.good D) Hb.out HF'.out) hX
      subst hA hA'
      obtain ⟨a0, a1, rfl⟩ := list2 hcl
      obtain ⟨c0, c1, rfl⟩ := list2 hcl'
      obtain rfl := Option.some.inj hR.2.2.1
      obtain rfl := Option.some.inj hR.2.2.2.1
      obtain rfl := Option.some.inj hR'.2.2.1
      obtain rfl := Option.some.inj hR'.2.2.2.1
      obtain ⟨p0, p1⟩ := hcat.two
      obtain ⟨p2, p3⟩ := hcat'.two
      have hE := neqO y y true (by simp)
      have hj0 : (0 : Int) ≤ (j : Int) := by omega
      have hj1 : (j : Int) < (xs.length : Int) := by omega
      have Hq : Hid (∀ q, Below w.heap.size w (wr.drewN q)) := hide fun q => below_drewN Hb.out q
      clear hX hR hR' hcat hcat' hbF hbF' hcl hcl'
      go_wp2_with fail
      go_quiet (fail)
      have Hn := hide (Hq.out nq)
      generalize wr.drewN nq = WX at Hn ⊢
      clear p0 p1 p2 p3 hE
      go_wp2_with fail
      go_roundw
      case rel => exact ⟨j + 1, by omega, by go_num, Hn⟩
      case measure => simp [intOf]; omega
    · have hli : ¬ (j : Int) < (xs.length : Int) := by omega
      go_wp2_with fail
      go_ret
      exact ⟨rfl, Hb.out⟩
end Go.Proofs.Ytaihdnlpdibkoaa
