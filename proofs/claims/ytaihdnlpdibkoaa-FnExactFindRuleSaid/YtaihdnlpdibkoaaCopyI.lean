/- A rule copied into new memory: the program's side. -/
import Derived.Test.YtaihdnlpdibkoaaCopyR
namespace Go.Proofs.Ytaihdnlpdibkoaa
set_option maxRecDepth 100000
open Go.RowKit Go.WideShapes
set_option linter.unusedVariables false

theorem Made.put2 {α : Type} {n n0 : Nat} {R : CR α} {W W3 W4 : World} {X : α} {us : List Value} {G : List Nat} (hR : Good n R) (h : Made n0 R W X us G) {p o o' : Nat} {ls ls' : List Value} {c c' : Array Value} {T T' : TypeId} (h1 : Put W p o ls c T W3) (h2 : Put W3 p o' ls' c' T' W4) (hp : p < n0) : Made n0 R W4 X us G := by
  have hf : ∀ k ∈ G, W4.heap[k]? = W.heap[k]? := fun k hk => by
    have := h.2.from_ k hk
    rw [h2.far k (by omega), h1.far k (by omega)]
  exact ⟨hR.frame h.1 hf (by rw [h2.size, h1.size]; exact Nat.le_refl _), h.2.keep hf⟩
/-- Both expressions of a contribution's box written. -/
theorem con_put {w w1 w2 : World} {p : Nat} {c0 c1 c2 c3 c4 c5 c6 c7 c8 c9 c10 c11 c12 c13 c14 c15 : Value} {T : TypeId} {us vs : List Value} {old : Array Value} (hb : w.heap[p]? = some (.cells #[c0, c1, c2, c3, c4, c5, c6, c7, c8, c9, c10, c11, c12, c13, c14, c15] T (0, 0))) (h1 : Put w p 2 us #[c0, c1, c2, c3, c4, c5, c6, c7, c8, c9, c10, c11, c12, c13, c14, c15] T w1) (h2 : Put w1 p 9 vs old T w2) (hu : us.length = 7) (hv : vs.length = 7) (ho : w1.heap[p]? = some (.cells old T (0, 0))) :
    w2.heap[p]? = some (.cells (List.toArray (c0 :: c1 :: (us ++ vs))) T (0, 0)) := by
  obtain ⟨a, ha, hz, hout, hin⟩ := h1.blk
  obtain ⟨b, hb2, hz2, hout2, hin2⟩ := h2.blk
  rw [ho] at ha
  injection ha with ha
  injection ha with ha
  subst ha
  refine whole_of hb2 (by rw [hz2, hz]; simp [hu, hv]) fun i u hi => ?_
  rw [cell_of_row _ _ _ _ _ _ hb2, Nat.zero_add]
  have hil : i < 16 := by
    have := (List.getElem?_eq_some_iff.1 hi).1
    simp [hu, hv] at this
    omega
  by_cases g1 : i < 2
  · rw [hout2 i (.inl (by omega)), hout i (.inl g1)]
    rcases i with _ | _ | i
    · simpa using hi
    · simpa using hi
    · omega
  · obtain ⟨i, rfl⟩ : ∃ q, i = q + 2 := ⟨i - 2, by omega⟩
    simp only [List.getElem?_cons_succ] at hi
    by_cases g2 : i < 7
    · rw [List.getElem?_append_left (by omega)] at hi
      rw [hout2 (i + 2) (.inl (by omega)), show i + 2 = 2 + i by omega]
      exact hin i u hi
    · rw [List.getElem?_append_right (by omega), hu] at hi
      have := hin2 (i - 7) u hi
      rwa [show 9 + (i - 7) = i + 2 by omega] at this
set_option maxRecDepth 100000 in
set_option maxHeartbeats 2000000 in
theorem i_copyRule (D : Nat) (x : Rul) (cs : List Value) (F : List Nat) (w : World) (h : RulR D w x cs F) (hbk : bulkRul D x ≤ 1048576) :
    Calls Try.prog 41 #[.agg cs.toArray] w fun en w' => ∃ us F', en = .returned (.agg (List.toArray us)) ∧ RulR D w' x us F' ∧ Fresh w.heap.size w' F' ∧ Below w.heap.size w w' := by
  obtain ⟨c0, c1, c2, c3, c4, c5, rfl⟩ := list_6 ((RulR.good D).len h)
  obtain ⟨v2, F2, v4, F4, v5, F5, _, hk, h0, h1, ⟨h2, g2⟩, h3, ⟨h4, g4⟩, ⟨h5, g5⟩, rfl⟩ := h
  obtain rfl := Option.some.inj h0
  obtain rfl := Option.some.inj h1
  obtain rfl := Option.some.inj h2
  obtain rfl := Option.some.inj h3
  obtain rfl := Option.some.inj h4
  obtain rfl := Option.some.inj h5
  obtain ⟨A2, cap2, rfl, hlc2, hm2⟩ := g2.form
  obtain ⟨A4, cap4, rfl, hlc4, hm4⟩ := g4.form
  obtain ⟨A5, cap5, rfl, hlc5, hm5⟩ := g5.form
  obtain ⟨hl2, hl4, hl5⟩ := bulk_rul hbk
  have HF2 := hide (g2.lt (StrR.good D))
  have HF4 := hide (g4.lt (EqnR.good D))
  have HF5 := hide (g5.lt (ConR.good D))
  have Hg2 := hide g2
  have Hg4 := hide g4
  have Hg5 := hide g5
  have Hk := hide hk
  obtain ⟨C0, hR0, hz0, hw0⟩ := boxR w [.string x.name, .string x.left, .slice A2 x.right.length cap2, .bool x.lit, .slice A4 x.eqs.length cap4, .slice A5 x.cons.length cap5] [.string ⟨#[]⟩, .string ⟨#[]⟩, .slice none 0 0, .bool false, .slice none 0 0, .slice none 0 0] 31 31
  show Calls _ _ #[.agg #[.string x.name, .string x.left, .slice A2 x.right.length cap2, .bool x.lit, .slice A4 x.eqs.length cap4, .slice A5 x.cons.length cap5]] w _
  clear g2 g4 g5 h0 h1 h2 h3 h4 h5 hk
  go_enter Try.func41, Try.ntmps41
  go_upto_region 1 with fail
  generalize (w.alloc (Obj.cells #[.string x.name, .string x.left, .slice A2 x.right.length cap2, .bool x.lit, .slice A4 x.eqs.length cap4, .slice A5 x.cons.length cap5] 31)).alloc (Obj.cells #[.string ⟨#[]⟩, .string ⟨#[]⟩, .slice none 0 0, .bool false, .slice none 0 0, .slice none 0 0] 31) = W0 at C0 hR0 hz0 hw0 ⊢
  have hn0 : w.heap.size + 2 ≤ W0.heap.size := by omega
  have hB0 : Below (w.heap.size + 2) W0 W0 := Below.refl _ _
  have e0 := cell_rule C0 (n := w.heap.size + 2) (by omega) 0 rfl
  have e1 := cell_rule C0 (n := w.heap.size + 2) (by omega) 1 rfl
  have e2 := cell_rule C0 (n := w.heap.size + 2) (by omega) 2 rfl
  have e3 := cell_rule C0 (n := w.heap.size + 2) (by omega) 3 rfl
  have HR0 := hide hR0
  have Hw0 := hide hw0
  have HC0 := hide C0
  have Hg0 : Hid (SlR 1 (StrR D) W0 x.right (.slice A2 x.right.length cap2) F2) := hide (Hg2.out.below (StrR.good D) hw0 HF2.out)
  have Hg0a : Hid (SlR 1 (StrR D) (W0.alloc (Obj.cells #[.string ⟨#[]⟩, .string ⟨#[]⟩, .slice none 0 0, .bool false, .slice none 0 0, .slice none 0 0] 31)) x.right (.slice A2 x.right.length cap2) F2) := hide (Hg0.out.below (StrR.good D) ((Below.refl w.heap.size W0).alloc (by omega) _) HF2.out)
  have hir : (Try.prog.info? 31).map (·.size) = some 6 := by kernel_rfl
  have Hir := hide hir
  clear C0 hz0 hw0 hR0 hir
  ·
    refine region_invA (fun a0 l a' w' => ∃ x0 x1 x2 x3 x4 x5 x6 x7 x8 x9 x10 : Value, a' = (((((((((((a0.put (some 8) x0).put (some 9) x1).put (some 10) x2).put (some 11) x3).put (some 12) x4).put (some 13) x5).put (some 14) x6).put (some 15) x7).put (some 16) x8).put (some 17) x9).put (some 3) x10) ∧ (l 11 = true → ∀ i, i < 11 → l i = true) ∧ (l 11 = true → ∃ (b : Nat) (A : Option Addr) (cap : Nat) (G : List Nat), x10 = .pointer (some ⟨b, 0, none⟩) ∧ w.heap.size + 2 ≤ b ∧ b ∉ G ∧ w'.heap[b]? = some (.cells #[.string x.name, .string x.left, .slice A x.right.length cap, .bool x.lit, .slice none 0 0, .slice none 0 0] 31 (0, 0)) ∧ SlR 1 (StrR D) w' x.right (.slice A x.right.length cap) G ∧ Fresh (w.heap.size + 2) w' G ∧ Below (w.heap.size + 2) W0 w') ∧ (l 11 = false → Below (w.heap.size + 2) W0 w' ∧ (l 6 = true → l 10 = true → ClB (w.heap.size + 2) 1 (StrR D) w' x.right #[.string ⟨#[]⟩, .string ⟨#[]⟩, .slice none 0 0, .bool false, .slice none 0 0, .slice none 0 0] 31 x6 x10) ∧ (l 9 = true → l 6 = true) ∧ (l 0 = true → x0 = .pointer (some ⟨w.heap.size, 0, none⟩)) ∧ (l 1 = true → x1 = .string x.name) ∧ (l 2 = true → x2 = .pointer (some ⟨w.heap.size, 1, none⟩)) ∧ (l 3 = true → x3 = .string x.left) ∧ (l 4 = true → x4 = .pointer (some ⟨w.heap.size, 2, none⟩)) ∧ (l 5 = true → x5 = .slice A2 x.right.length cap2) ∧ (l 6 = true → ClM (w.heap.size + 2) 1 (StrR D) w' x.right x6) ∧ (l 7 = true → x7 = .pointer (some ⟨w.heap.size, 3, none⟩)) ∧ (l 8 = true → x8 = .bool x.lit) ∧ (l 9 = true → x9 = .agg #[.string x.name, .string x.left, x6, .bool x.lit, .slice none 0 0, .slice none 0 0]) ∧ (l 10 = true → PtN (w.heap.size + 2) w' x10 #[.string ⟨#[]⟩, .string ⟨#[]⟩, .slice none 0 0, .bool false, .slice none 0 0, .slice none 0 0] 31 0))) rfl (by kernel_rfl) ?h0 ?hstep ?hend
    case h0 => exact ⟨undef, undef, undef, undef, undef, undef, undef, undef, undef, undef, undef, by kernel_rfl, fun h => absurd h (by decide), fun h => absurd h (by decide), fun _ => ⟨Below.drew hB0, fun h => absurd h (by decide), fun h => absurd h (by decide), fun h => absurd h (by decide), fun h => absurd h (by decide), fun h => absurd h (by decide), fun h => absurd h (by decide), fun h => absurd h (by decide), fun h => absurd h (by decide), fun h => absurd h (by decide), fun h => absurd h (by decide), fun h => absurd h (by decide), fun h => absurd h (by decide), fun h => absurd h (by decide)⟩⟩
    case hstep =>
      refine ⟨?s0, ?s1, ?s2, ?s3, ?s4, ?s5, ?s6, ?s7, ?s8, ?s9, ?s10, ?s11, trivial⟩
      case s0 =>
        intro l a' w' hk hpre hJ K hK
        obtain ⟨x0, x1, x2, x3, x4, x5, x6, x7, x8, x9, x10, ha, hall, hfin, hfs⟩ := hJ
        have h12 : l 11 = false := upd_last hall hk (by decide)
        clear hall hfin
        obtain ⟨hB, hj, hc9, f0, f1, f2, f3, f4, f5, f6, f7, f8, f9, f10⟩ := hfs h12
        clear hfs
        have hnw : w.heap.size + 2 ≤ w'.heap.size := Nat.le_trans hn0 hB.size

        subst ha
        go_simp
        exact hK.out _ _ ⟨.pointer (some ⟨w.heap.size, 0, none⟩), x1, x2, x3, x4, x5, x6, x7, x8, x9, x10, by kernel_rfl, fun h => absurd (updL_ne h (by decide)) (by rw [h12]; decide), fun h => absurd (updL_ne h (by decide)) (by rw [h12]; decide), fun _ => ⟨hB, fun h1 h2 => (hj (updL_ne h1 (by decide)) (updL_ne h2 (by decide))).mono (StrR.good D) (Below.refl _ _), fun h => updL_up (hc9 (updL_ne h (by decide))), fun _ => rfl, fun h => f1 (updL_ne h (by decide)), fun h => f2 (updL_ne h (by decide)), fun h => f3 (updL_ne h (by decide)), fun h => f4 (updL_ne h (by decide)), fun h => f5 (updL_ne h (by decide)), fun h => ClM.mono (StrR.good D) (Below.refl _ _) (f6 (updL_ne h (by decide))), fun h => f7 (updL_ne h (by decide)), fun h => f8 (updL_ne h (by decide)), fun h => f9 (updL_ne h (by decide)), fun h => PtN.monoB (Below.refl _ _) (f10 (updL_ne h (by decide)))⟩⟩
      case s1 =>
        intro l a' w' hk hpre hJ K hK
        obtain ⟨x0, x1, x2, x3, x4, x5, x6, x7, x8, x9, x10, ha, hall, hfin, hfs⟩ := hJ
        have h12 : l 11 = false := upd_last hall hk (by decide)
        clear hall hfin
        obtain ⟨hB, hj, hc9, f0, f1, f2, f3, f4, f5, f6, f7, f8, f9, f10⟩ := hfs h12
        clear hfs
        have p0 : l 0 = true := hpre 0 (by kernel_rfl)
        have hnw : w.heap.size + 2 ≤ w'.heap.size := Nat.le_trans hn0 hB.size
        obtain rfl := f0 p0
        have q : w'.cell? ⟨w.heap.size, 0, none⟩ = some (.string x.name) := e0 w' hB
        subst ha
        go_simp
        exact hK.out _ _ ⟨.pointer (some ⟨w.heap.size, 0, none⟩), .string x.name, x2, x3, x4, x5, x6, x7, x8, x9, x10, by kernel_rfl, fun h => absurd (updL_ne h (by decide)) (by rw [h12]; decide), fun h => absurd (updL_ne h (by decide)) (by rw [h12]; decide), fun _ => ⟨hB, fun h1 h2 => (hj (updL_ne h1 (by decide)) (updL_ne h2 (by decide))).mono (StrR.good D) (Below.refl _ _), fun h => updL_up (hc9 (updL_ne h (by decide))), fun h => f0 (updL_ne h (by decide)), fun _ => rfl, fun h => f2 (updL_ne h (by decide)), fun h => f3 (updL_ne h (by decide)), fun h => f4 (updL_ne h (by decide)), fun h => f5 (updL_ne h (by decide)), fun h => ClM.mono (StrR.good D) (Below.refl _ _) (f6 (updL_ne h (by decide))), fun h => f7 (updL_ne h (by decide)), fun h => f8 (updL_ne h (by decide)), fun h => f9 (updL_ne h (by decide)), fun h => PtN.monoB (Below.refl _ _) (f10 (updL_ne h (by decide)))⟩⟩
      case s2 =>
        intro l a' w' hk hpre hJ K hK
        obtain ⟨x0, x1, x2, x3, x4, x5, x6, x7, x8, x9, x10, ha, hall, hfin, hfs⟩ := hJ
        have h12 : l 11 = false := upd_last hall hk (by decide)
        clear hall hfin
        obtain ⟨hB, hj, hc9, f0, f1, f2, f3, f4, f5, f6, f7, f8, f9, f10⟩ := hfs h12
        clear hfs
        have hnw : w.heap.size + 2 ≤ w'.heap.size := Nat.le_trans hn0 hB.size

        subst ha
        go_simp
        exact hK.out _ _ ⟨x0, x1, .pointer (some ⟨w.heap.size, 1, none⟩), x3, x4, x5, x6, x7, x8, x9, x10, by kernel_rfl, fun h => absurd (updL_ne h (by decide)) (by rw [h12]; decide), fun h => absurd (updL_ne h (by decide)) (by rw [h12]; decide), fun _ => ⟨hB, fun h1 h2 => (hj (updL_ne h1 (by decide)) (updL_ne h2 (by decide))).mono (StrR.good D) (Below.refl _ _), fun h => updL_up (hc9 (updL_ne h (by decide))), fun h => f0 (updL_ne h (by decide)), fun h => f1 (updL_ne h (by decide)), fun _ => rfl, fun h => f3 (updL_ne h (by decide)), fun h => f4 (updL_ne h (by decide)), fun h => f5 (updL_ne h (by decide)), fun h => ClM.mono (StrR.good D) (Below.refl _ _) (f6 (updL_ne h (by decide))), fun h => f7 (updL_ne h (by decide)), fun h => f8 (updL_ne h (by decide)), fun h => f9 (updL_ne h (by decide)), fun h => PtN.monoB (Below.refl _ _) (f10 (updL_ne h (by decide)))⟩⟩
      case s3 =>
        intro l a' w' hk hpre hJ K hK
        obtain ⟨x0, x1, x2, x3, x4, x5, x6, x7, x8, x9, x10, ha, hall, hfin, hfs⟩ := hJ
        have h12 : l 11 = false := upd_last hall hk (by decide)
        clear hall hfin
        obtain ⟨hB, hj, hc9, f0, f1, f2, f3, f4, f5, f6, f7, f8, f9, f10⟩ := hfs h12
        clear hfs
        have p2 : l 2 = true := hpre 2 (by kernel_rfl)
        have hnw : w.heap.size + 2 ≤ w'.heap.size := Nat.le_trans hn0 hB.size
        obtain rfl := f2 p2
        have q : w'.cell? ⟨w.heap.size, 1, none⟩ = some (.string x.left) := e1 w' hB
        subst ha
        go_simp
        exact hK.out _ _ ⟨x0, x1, .pointer (some ⟨w.heap.size, 1, none⟩), .string x.left, x4, x5, x6, x7, x8, x9, x10, by kernel_rfl, fun h => absurd (updL_ne h (by decide)) (by rw [h12]; decide), fun h => absurd (updL_ne h (by decide)) (by rw [h12]; decide), fun _ => ⟨hB, fun h1 h2 => (hj (updL_ne h1 (by decide)) (updL_ne h2 (by decide))).mono (StrR.good D) (Below.refl _ _), fun h => updL_up (hc9 (updL_ne h (by decide))), fun h => f0 (updL_ne h (by decide)), fun h => f1 (updL_ne h (by decide)), fun h => f2 (updL_ne h (by decide)), fun _ => rfl, fun h => f4 (updL_ne h (by decide)), fun h => f5 (updL_ne h (by decide)), fun h => ClM.mono (StrR.good D) (Below.refl _ _) (f6 (updL_ne h (by decide))), fun h => f7 (updL_ne h (by decide)), fun h => f8 (updL_ne h (by decide)), fun h => f9 (updL_ne h (by decide)), fun h => PtN.monoB (Below.refl _ _) (f10 (updL_ne h (by decide)))⟩⟩
      case s4 =>
        intro l a' w' hk hpre hJ K hK
        obtain ⟨x0, x1, x2, x3, x4, x5, x6, x7, x8, x9, x10, ha, hall, hfin, hfs⟩ := hJ
        have h12 : l 11 = false := upd_last hall hk (by decide)
        clear hall hfin
        obtain ⟨hB, hj, hc9, f0, f1, f2, f3, f4, f5, f6, f7, f8, f9, f10⟩ := hfs h12
        clear hfs
        have hnw : w.heap.size + 2 ≤ w'.heap.size := Nat.le_trans hn0 hB.size

        subst ha
        go_simp
        exact hK.out _ _ ⟨x0, x1, x2, x3, .pointer (some ⟨w.heap.size, 2, none⟩), x5, x6, x7, x8, x9, x10, by kernel_rfl, fun h => absurd (updL_ne h (by decide)) (by rw [h12]; decide), fun h => absurd (updL_ne h (by decide)) (by rw [h12]; decide), fun _ => ⟨hB, fun h1 h2 => (hj (updL_ne h1 (by decide)) (updL_ne h2 (by decide))).mono (StrR.good D) (Below.refl _ _), fun h => updL_up (hc9 (updL_ne h (by decide))), fun h => f0 (updL_ne h (by decide)), fun h => f1 (updL_ne h (by decide)), fun h => f2 (updL_ne h (by decide)), fun h => f3 (updL_ne h (by decide)), fun _ => rfl, fun h => f5 (updL_ne h (by decide)), fun h => ClM.mono (StrR.good D) (Below.refl _ _) (f6 (updL_ne h (by decide))), fun h => f7 (updL_ne h (by decide)), fun h => f8 (updL_ne h (by decide)), fun h => f9 (updL_ne h (by decide)), fun h => PtN.monoB (Below.refl _ _) (f10 (updL_ne h (by decide)))⟩⟩
      case s5 =>
        intro l a' w' hk hpre hJ K hK
        obtain ⟨x0, x1, x2, x3, x4, x5, x6, x7, x8, x9, x10, ha, hall, hfin, hfs⟩ := hJ
        have h12 : l 11 = false := upd_last hall hk (by decide)
        clear hall hfin
        obtain ⟨hB, hj, hc9, f0, f1, f2, f3, f4, f5, f6, f7, f8, f9, f10⟩ := hfs h12
        clear hfs
        have p4 : l 4 = true := hpre 4 (by kernel_rfl)
        have hnw : w.heap.size + 2 ≤ w'.heap.size := Nat.le_trans hn0 hB.size
        obtain rfl := f4 p4
        have q : w'.cell? ⟨w.heap.size, 2, none⟩ = some (.slice A2 x.right.length cap2) := e2 w' hB
        subst ha
        go_simp
        exact hK.out _ _ ⟨x0, x1, x2, x3, .pointer (some ⟨w.heap.size, 2, none⟩), .slice A2 x.right.length cap2, x6, x7, x8, x9, x10, by kernel_rfl, fun h => absurd (updL_ne h (by decide)) (by rw [h12]; decide), fun h => absurd (updL_ne h (by decide)) (by rw [h12]; decide), fun _ => ⟨hB, fun h1 h2 => (hj (updL_ne h1 (by decide)) (updL_ne h2 (by decide))).mono (StrR.good D) (Below.refl _ _), fun h => updL_up (hc9 (updL_ne h (by decide))), fun h => f0 (updL_ne h (by decide)), fun h => f1 (updL_ne h (by decide)), fun h => f2 (updL_ne h (by decide)), fun h => f3 (updL_ne h (by decide)), fun h => f4 (updL_ne h (by decide)), fun _ => rfl, fun h => ClM.mono (StrR.good D) (Below.refl _ _) (f6 (updL_ne h (by decide))), fun h => f7 (updL_ne h (by decide)), fun h => f8 (updL_ne h (by decide)), fun h => f9 (updL_ne h (by decide)), fun h => PtN.monoB (Below.refl _ _) (f10 (updL_ne h (by decide)))⟩⟩
      case s6 =>
        intro l a' w' hk hpre hJ K hK
        obtain ⟨x0, x1, x2, x3, x4, x5, x6, x7, x8, x9, x10, ha, hall, hfin, hfs⟩ := hJ
        have h12 : l 11 = false := upd_last hall hk (by decide)
        clear hall hfin
        obtain ⟨hB, hj, hc9, f0, f1, f2, f3, f4, f5, f6, f7, f8, f9, f10⟩ := hfs h12
        clear hfs
        have p5 : l 5 = true := hpre 5 (by kernel_rfl)
        have hnw : w.heap.size + 2 ≤ w'.heap.size := Nat.le_trans hn0 hB.size
        obtain rfl := f5 p5

        subst ha
        go_simp
        go_at_call 81
        refine Calls.mono (t_CloneS D x.right (.slice A2 x.right.length cap2) F2 w' (Hg0.out.below (StrR.good D) (hB.mono (by omega) : Below w.heap.size W0 w') HF2.out) hl2) ?_
        rintro en w2 ⟨v', G, rfl, hG1, hG2, hG3⟩
        obtain ⟨A6, cap6, rfl, _, _⟩ := hG1.form
        exact hK.out _ _ ⟨x0, x1, x2, x3, x4, .slice A2 x.right.length cap2, .slice A6 x.right.length cap6, x7, x8, x9, x10, by kernel_rfl, fun h => absurd (updL_ne h (by decide)) (by rw [h12]; decide), fun h => absurd (updL_ne h (by decide)) (by rw [h12]; decide), fun _ => ⟨hB.trans (hG3.mono hnw), fun _ h2 => ClB.left (StrR.good D) (f10 (updL_ne h2 (by decide))) hG3 hG1 hG2 hnw, fun h => updL_up (hc9 (updL_ne h (by decide))), fun h => f0 (updL_ne h (by decide)), fun h => f1 (updL_ne h (by decide)), fun h => f2 (updL_ne h (by decide)), fun h => f3 (updL_ne h (by decide)), fun h => f4 (updL_ne h (by decide)), fun h => f5 (updL_ne h (by decide)), fun _ => ⟨A6, cap6, G, rfl, hG1, hG2.mono hnw⟩, fun h => f7 (updL_ne h (by decide)), fun h => f8 (updL_ne h (by decide)), fun h => absurd (hc9 (updL_ne h (by decide))) (by rw [hk]; decide), fun h => PtN.monoB hG3 (f10 (updL_ne h (by decide)))⟩⟩
      case s7 =>
        intro l a' w' hk hpre hJ K hK
        obtain ⟨x0, x1, x2, x3, x4, x5, x6, x7, x8, x9, x10, ha, hall, hfin, hfs⟩ := hJ
        have h12 : l 11 = false := upd_last hall hk (by decide)
        clear hall hfin
        obtain ⟨hB, hj, hc9, f0, f1, f2, f3, f4, f5, f6, f7, f8, f9, f10⟩ := hfs h12
        clear hfs
        have hnw : w.heap.size + 2 ≤ w'.heap.size := Nat.le_trans hn0 hB.size

        subst ha
        go_simp
        exact hK.out _ _ ⟨x0, x1, x2, x3, x4, x5, x6, .pointer (some ⟨w.heap.size, 3, none⟩), x8, x9, x10, by kernel_rfl, fun h => absurd (updL_ne h (by decide)) (by rw [h12]; decide), fun h => absurd (updL_ne h (by decide)) (by rw [h12]; decide), fun _ => ⟨hB, fun h1 h2 => (hj (updL_ne h1 (by decide)) (updL_ne h2 (by decide))).mono (StrR.good D) (Below.refl _ _), fun h => updL_up (hc9 (updL_ne h (by decide))), fun h => f0 (updL_ne h (by decide)), fun h => f1 (updL_ne h (by decide)), fun h => f2 (updL_ne h (by decide)), fun h => f3 (updL_ne h (by decide)), fun h => f4 (updL_ne h (by decide)), fun h => f5 (updL_ne h (by decide)), fun h => ClM.mono (StrR.good D) (Below.refl _ _) (f6 (updL_ne h (by decide))), fun _ => rfl, fun h => f8 (updL_ne h (by decide)), fun h => f9 (updL_ne h (by decide)), fun h => PtN.monoB (Below.refl _ _) (f10 (updL_ne h (by decide)))⟩⟩
      case s8 =>
        intro l a' w' hk hpre hJ K hK
        obtain ⟨x0, x1, x2, x3, x4, x5, x6, x7, x8, x9, x10, ha, hall, hfin, hfs⟩ := hJ
        have h12 : l 11 = false := upd_last hall hk (by decide)
        clear hall hfin
        obtain ⟨hB, hj, hc9, f0, f1, f2, f3, f4, f5, f6, f7, f8, f9, f10⟩ := hfs h12
        clear hfs
        have p7 : l 7 = true := hpre 7 (by kernel_rfl)
        have hnw : w.heap.size + 2 ≤ w'.heap.size := Nat.le_trans hn0 hB.size
        obtain rfl := f7 p7
        have q : w'.cell? ⟨w.heap.size, 3, none⟩ = some (.bool x.lit) := e3 w' hB
        subst ha
        go_simp
        exact hK.out _ _ ⟨x0, x1, x2, x3, x4, x5, x6, .pointer (some ⟨w.heap.size, 3, none⟩), .bool x.lit, x9, x10, by kernel_rfl, fun h => absurd (updL_ne h (by decide)) (by rw [h12]; decide), fun h => absurd (updL_ne h (by decide)) (by rw [h12]; decide), fun _ => ⟨hB, fun h1 h2 => (hj (updL_ne h1 (by decide)) (updL_ne h2 (by decide))).mono (StrR.good D) (Below.refl _ _), fun h => updL_up (hc9 (updL_ne h (by decide))), fun h => f0 (updL_ne h (by decide)), fun h => f1 (updL_ne h (by decide)), fun h => f2 (updL_ne h (by decide)), fun h => f3 (updL_ne h (by decide)), fun h => f4 (updL_ne h (by decide)), fun h => f5 (updL_ne h (by decide)), fun h => ClM.mono (StrR.good D) (Below.refl _ _) (f6 (updL_ne h (by decide))), fun h => f7 (updL_ne h (by decide)), fun _ => rfl, fun h => f9 (updL_ne h (by decide)), fun h => PtN.monoB (Below.refl _ _) (f10 (updL_ne h (by decide)))⟩⟩
      case s9 =>
        intro l a' w' hk hpre hJ K hK
        obtain ⟨x0, x1, x2, x3, x4, x5, x6, x7, x8, x9, x10, ha, hall, hfin, hfs⟩ := hJ
        have h12 : l 11 = false := upd_last hall hk (by decide)
        clear hall hfin
        obtain ⟨hB, hj, hc9, f0, f1, f2, f3, f4, f5, f6, f7, f8, f9, f10⟩ := hfs h12
        clear hfs
        have p1 : l 1 = true := hpre 1 (by kernel_rfl)
        have p3 : l 3 = true := hpre 3 (by kernel_rfl)
        have p6 : l 6 = true := hpre 6 (by kernel_rfl)
        have p8 : l 8 = true := hpre 8 (by kernel_rfl)
        have hnw : w.heap.size + 2 ≤ w'.heap.size := Nat.le_trans hn0 hB.size
        obtain rfl := f1 p1
        obtain rfl := f3 p3
        obtain ⟨A6, cap6, G6, rfl, hs6, hf6⟩ := f6 p6
        obtain rfl := f8 p8

        subst ha
        go_simp
        exact hK.out _ _ ⟨x0, .string x.name, x2, .string x.left, x4, x5, .slice A6 x.right.length cap6, x7, .bool x.lit, .agg #[.string x.name, .string x.left, .slice A6 x.right.length cap6, .bool x.lit, .slice none 0 0, .slice none 0 0], x10, by kernel_rfl, fun h => absurd (updL_ne h (by decide)) (by rw [h12]; decide), fun h => absurd (updL_ne h (by decide)) (by rw [h12]; decide), fun _ => ⟨hB, fun h1 h2 => (hj (updL_ne h1 (by decide)) (updL_ne h2 (by decide))).mono (StrR.good D) (Below.refl _ _), fun _ => updL_up p6, fun h => f0 (updL_ne h (by decide)), fun h => f1 (updL_ne h (by decide)), fun h => f2 (updL_ne h (by decide)), fun h => f3 (updL_ne h (by decide)), fun h => f4 (updL_ne h (by decide)), fun h => f5 (updL_ne h (by decide)), fun h => ClM.mono (StrR.good D) (Below.refl _ _) (f6 (updL_ne h (by decide))), fun h => f7 (updL_ne h (by decide)), fun h => f8 (updL_ne h (by decide)), fun _ => rfl, fun h => PtN.monoB (Below.refl _ _) (f10 (updL_ne h (by decide)))⟩⟩
      case s10 =>
        intro l a' w' hk hpre hJ K hK
        obtain ⟨x0, x1, x2, x3, x4, x5, x6, x7, x8, x9, x10, ha, hall, hfin, hfs⟩ := hJ
        have h12 : l 11 = false := upd_last hall hk (by decide)
        clear hall hfin
        obtain ⟨hB, hj, hc9, f0, f1, f2, f3, f4, f5, f6, f7, f8, f9, f10⟩ := hfs h12
        clear hfs
        have hnw : w.heap.size + 2 ≤ w'.heap.size := Nat.le_trans hn0 hB.size

        subst ha
        go_simp
        exact hK.out _ _ ⟨x0, x1, x2, x3, x4, x5, x6, x7, x8, x9, .pointer (some ⟨w'.heap.size, 0, none⟩), by kernel_rfl, fun h => absurd (updL_ne h (by decide)) (by rw [h12]; decide), fun h => absurd (updL_ne h (by decide)) (by rw [h12]; decide), fun _ => ⟨hB.alloc hnw _, fun h1 _ => ClB.right (StrR.good D) (f6 (updL_ne h1 (by decide))) hnw, fun h => updL_up (hc9 (updL_ne h (by decide))), fun h => f0 (updL_ne h (by decide)), fun h => f1 (updL_ne h (by decide)), fun h => f2 (updL_ne h (by decide)), fun h => f3 (updL_ne h (by decide)), fun h => f4 (updL_ne h (by decide)), fun h => f5 (updL_ne h (by decide)), fun h => ClM.mono (StrR.good D) ((Below.refl _ _).alloc (Nat.le_refl _) _) (f6 (updL_ne h (by decide))), fun h => f7 (updL_ne h (by decide)), fun h => f8 (updL_ne h (by decide)), fun h => f9 (updL_ne h (by decide)), fun _ => ⟨_, rfl, New.made hnw _ _⟩⟩⟩
      case s11 =>
        intro l a' w' hk hpre hJ K hK
        obtain ⟨x0, x1, x2, x3, x4, x5, x6, x7, x8, x9, x10, ha, hall, hfin, hfs⟩ := hJ
        have h12 : l 11 = false := hk
        clear hall hfin
        obtain ⟨hB, hj, hc9, f0, f1, f2, f3, f4, f5, f6, f7, f8, f9, f10⟩ := hfs h12
        clear hfs
        have p6 : l 6 = true := hpre 6 (by kernel_rfl)
        have p9 : l 9 = true := hpre 9 (by kernel_rfl)
        have p10 : l 10 = true := hpre 10 (by kernel_rfl)
        obtain ⟨A6, cap6, G6, b, rfl, rfl, hs6, hf6, hb6, hbn⟩ := hj p6 p10
        obtain rfl := f9 p9

        refine step_store rfl 31 (.tmp 3) (.tmp 17) rfl (cs := [.string x.name, .string x.left, .slice A6 x.right.length cap6, .bool x.lit, .slice none 0 0, .slice none 0 0]) (v := .agg #[.string x.name, .string x.left, .slice A6 x.right.length cap6, .bool x.lit, .slice none 0 0, .slice none 0 0]) rfl Hir.out (by rw [ha]; kernel_rfl) (g := b) (off := 0) (by rw [ha]; kernel_rfl) rfl (by simp [Value.oneCell']) hb6.2 (by decide) ?_
        intro WF hP
        have hfr6 : ∀ k ∈ G6, WF.heap[k]? = w'.heap[k]? := fun k hk => hP.far k (fun e => hbn (e ▸ hk))
        have hzP := hP.size
        have hbx := put_whole hP rfl
        have hb1 := hb6.1
        subst ha
        exact hK.out _ _ ⟨x0, x1, x2, x3, x4, x5, .slice A6 x.right.length cap6, x7, x8, .agg #[.string x.name, .string x.left, .slice A6 x.right.length cap6, .bool x.lit, .slice none 0 0, .slice none 0 0], .pointer (some ⟨b, 0, none⟩), by kernel_rfl, fun _ => deep_all hpre (by kernel_rfl) _, fun _ => ⟨b, A6, cap6, G6, rfl, hb1, hbn, hbx, hs6.frame (StrR.good D) hfr6 (by omega), hf6.keep hfr6, hB.trans (hP.below hb1)⟩, fun h => absurd h (by simp [updL])⟩
    case hend =>
      intro l a' w' hl hJ
      obtain ⟨x0, x1, x2, x3, x4, x5, x6, x7, x8, x9, x10, ha, _, hfin, _⟩ := hJ
      simp [go_sem] at ha
      subst ha
      replace hfin := hfin (hl 11 (by decide))
      clear hl
      obtain ⟨b, A, cap, G, rfl, hb, hbG, hbx0, hsl, hfr, hbw⟩ := hfin
      obtain ⟨wc, hwcE⟩ : ∃ W, W = w' := ⟨_, rfl⟩
      subst hwcE
      have hb1 : b < wc.heap.size := blk_lt hbx0
      have Hbx0 : Hid (wc.heap[b]? = some (.cells #[.string x.name, .string x.left, .slice A x.right.length cap, .bool x.lit, .slice none 0 0, .slice none 0 0] 31 (0, 0))) := hide hbx0
      have Hsl := hide hsl
      have Hfr := hide hfr
      have HbG := hide hbG
      have Hg0' : Hid (wc.grownBy wc (some b)) := hide ⟨rfl, rfl, rfl, Nat.le_refl _, fun _ _ _ => rfl⟩
      have HQ : Hid (∀ y ∈ x.eqs, bulkE D y.expr ≤ 1048576) := hide (bulk_eqs hbk)
      have HQ2 : Hid (∀ y ∈ x.cons, bulkE D y.target ≤ 1048576 ∧ bulkE D y.value ≤ 1048576) := hide (bulk_cons hbk)
      have E5 := hide (cell_rule HC0.out (n := w.heap.size + 2) (by omega) 5 rfl)
      have qc4 := cell_rule HC0.out (n := w.heap.size + 2) (by omega) 4 rfl wc hbw
      have Hio : Hid ((Try.prog.info? 65).map (·.size) = some 2) := hide (by kernel_rfl)
      have Hix : Hid ((Try.prog.info? 52).map (·.size) = some 7) := hide (by kernel_rfl)
      have Hie : Hid ((Try.prog.info? 106).map (·.size) = some 9) := hide (by kernel_rfl)
      have Hic : Hid ((Try.prog.info? 109).map (·.size) = some 16) := hide (by kernel_rfl)
      clear hbx0 hsl hfr hbG hbk
      go_wp2_with fail
      go_loopw [21] (fun i wr => ∃ (j : Nat) (v : Value) (F' : List Nat), j ≤ x.eqs.length ∧ i = .int .i64 j ∧ Hid (wc.grownBy wr (some b)) ∧ Hid (wr.heap[b]? = some (.cells #[.string x.name, .string x.left, .slice A x.right.length cap, .bool x.lit, v, .slice none 0 0] 31 (0, 0))) ∧ Hid (OwnS 9 (EqnR D) wc.heap.size 106 wr (x.eqs.take j) v F')) (fun i _ => x.eqs.length - (intOf i).toNat)
      case atStart => exact ⟨0, _, [], by omega, rfl, Hg0', Hbx0, hide (OwnS.nil _)⟩
      case round =>
        obtain ⟨j, v, F', hj, rfl, Hgr, Hbx, Hown⟩ := hrel
        have hwc : Below w.heap.size w wc := Hw0.out.trans (hbw.mono (by omega))
        have hzc := hwc.size
        have hwr : Below w.heap.size w wr := hwc.grown Hgr.out (by omega) (fun k hk => by injection hk with hk; omega)
        have hwr2 : Below (w.heap.size + 2) W0 wr := hbw.grown Hgr.out (by have := hbw.size; omega) (fun k hk => by injection hk with hk; omega)
        have hwcr0 : wc.heap.size ≤ wr.heap.size := Hgr.out.size
        by_cases hlt : j < x.eqs.length
        · have hX : x.eqs[j]? = some x.eqs[j] := List.getElem?_eq_getElem hlt
          generalize x.eqs[j] = X at hX
          obtain ⟨be, off, es, Fk, hA, _, hbF, hFk, hcl, hcatE, hR⟩ := SlR.get (EqnR.good D) (Hg4.out.below (EqnR.good D) hwr HF4.out) hX
          subst hA
          have HX := hide hX
          have hbke : bulkE D X.expr ≤ 1048576 := HQ.out X (List.mem_of_getElem? hX)
          have hbew : be < w.heap.size := HF4.out be hbF
          have hbe : be < wr.heap.size := by omega
          have HoneC := hide (EqnR.one hR)
          obtain ⟨Av, capv, hv, _, _⟩ := Hown.out.form
          rw [List.length_take, Nat.min_eq_left hj] at hv
          subst hv
          obtain ⟨F0, FE, h9, hO, hE, hFe⟩ := hR
          obtain ⟨o0, o1, e0, e1, e2, e3, e4, e5, e6, rfl⟩ := list_9 h9
          have HOr : Hid (OccR D wr X.at_ [o0, o1] F0) := hide hO
          have HEr : Hid (ExR D wr X.expr [e0, e1, e2, e3, e4, e5, e6] FE) := hide hE
          have Hce := hide hcatE
          have Hn : Hid (([o0, o1, e0, e1, e2, e3, e4, e5, e6] : List Value).length = 9) := hide rfl
          have hj0 : (0 : Int) ≤ (j : Int) := by omega
          have hj1 : (j : Int) < (x.eqs.length : Int) := by omega
          clear hX hbF hFk hcl hcatE hO hE hFe h9
          go_wp2_with (first
            | refine wpList_load_at 106 (.tmp 23) rfl Try.underlying106 rfl Hie.out rfl rfl Hn.out Hce.out ?_
            | (refine wpList_store_new 106 (.tmp 5) (.tmp 24) rfl Hie.out rfl rfl rfl rfl Hn.out HoneC.out rfl ?_; refine hold ?_))
          have hb6 := heap_alloc_new wr (Obj.cells #[o0, o1, e0, e1, e2, e3, e4, e5, e6] 106)
          have hBV : Below wr.heap.size wr (wr.alloc (Obj.cells #[o0, o1, e0, e1, e2, e3, e4, e5, e6] 106)) := (Below.refl _ _).alloc (Nat.le_refl _) _
          generalize wr.alloc (Obj.cells #[o0, o1, e0, e1, e2, e3, e4, e5, e6] 106) = V1 at hb6 hBV ⊢
          have hpV : wr.heap.size < V1.heap.size := blk_lt hb6
          have HownV : Hid (OwnS 9 (EqnR D) wc.heap.size 106 V1 (x.eqs.take j) (.slice Av j capv) F') := hide (Hown.out.below (EqnR.good D) hBV)
          have hbwc : b < wc.heap.size := hb1
          have HbxV : Hid (V1.heap[b]? = some (.cells #[.string x.name, .string x.left, .slice A x.right.length cap, .bool x.lit, .slice Av j capv, .slice none 0 0] 31 (0, 0))) := hide (blk_below Hbx.out hBV (by omega))
          have HgrV : Hid (wc.grownBy V1 (some b)) := hide (mk_base Hgr.out hBV hwcr0)
          have HFE0 := hide ((ExR.good D).lt HEr.out)
          have HE : Hid (ExR D V1 X.expr [e0, e1, e2, e3, e4, e5, e6] FE) := hide ((ExR.good D).below HEr.out hBV HFE0.out)
          have HFE : Hid (∀ k ∈ FE, k < V1.heap.size) := hide (fun k hk => Nat.lt_trans (HFE0.out k hk) hpV)
          have HO : Hid (OccR D V1 X.at_ [o0, o1] F0) := hide HOr.out
          have HcB : Hid (CellsAt V1 wr.heap.size 0 [o0, o1, e0, e1, e2, e3, e4, e5, e6]) := hide (fun i u hu => by
            rw [cell_of_row _ _ _ _ _ _ hb6, Nat.zero_add]
            simpa using hu)
          have Hco : Hid (CellsAt V1 wr.heap.size 0 [o0, o1]) := hide (HcB.out.sub 0 2)
          have Hcx : Hid (CellsAt V1 wr.heap.size 2 [e0, e1, e2, e3, e4, e5, e6]) := hide (HcB.out.sub 2 7)
          have hwcr : wc.heap.size ≤ V1.heap.size := by omega
          have hbr : b < V1.heap.size := by omega
          have q4 := cell_at (i := 4) HbxV.out (by simp)
          have HFl : Hid (∀ k ∈ F', k < V1.heap.size) := hide HownV.out.fresh.lt
          have HVl : Hid (∀ k, (Value.slice Av j capv).ownBlock = some k → k < V1.heap.size) := hide (fun k hk => (HownV.out.blk k hk).2)
          have Htl : Hid ((x.eqs.take j ++ [X]).length = j + 1) := hide (by simp; omega)
          have Hb1 : Hid ((x.eqs.take j).length + 1 ≤ 1099511627776) := hide (by rw [List.length_take]; omega)
          have Hb2 : Hid (((x.eqs.take j).length + 1) * 112 ≤ 140737488355328) := hide (by rw [List.length_take]; omega)
          clear hb6 hBV HFE0 HEr HOr
          refine Hold.go ?_
          go_wp2_with fail
          refine region_invA (fun a0 l a' w' => ∃ x0 x1 x2 x3 x4 x5 x6 x7 x8 x9 x10 : Value, a' = (((((((((((a0.put (some 25) x0).put (some 26) x1).put (some 27) x2).put (some 28) x3).put (some 29) x4).put (some 30) x5).put (some 31) x6).put (some 32) x7).put (some 33) x8).put (some 34) x9).put (some 35) x10) ∧ (l 11 = true → ∀ i, i < 11 → l i = true) ∧ (l 11 = true → ∃ (W5 : World) (A8 : Option Addr) (cap8 : Nat) (F8 : List Nat), OwnS 9 (EqnR D) wc.heap.size 106 W5 (x.eqs.take j ++ [X]) (.slice A8 (j + 1) cap8) F8 ∧ Below wc.heap.size V1 W5 ∧ w' = W5.setCell ⟨b, 4, none⟩ (.slice A8 (j + 1) cap8)) ∧ (l 11 = false → (l 9 = true → ∀ i, i < 9 → l i = true) ∧ (l 9 = false → Below V1.heap.size V1 w') ∧ (l 0 = true → x0 = .pointer (some ⟨b, 4, none⟩)) ∧ (l 1 = true → x1 = .slice Av j capv) ∧ (l 2 = true → x2 = .pointer (some ⟨wr.heap.size, 0, none⟩)) ∧ (l 3 = true → x3 = .agg #[o0, o1]) ∧ (l 4 = true → x4 = .pointer (some ⟨wr.heap.size, 2, none⟩)) ∧ (l 5 = true → x5 = .agg #[e0, e1, e2, e3, e4, e5, e6]) ∧ (l 6 = true → (l 9 = false → AgM V1.heap.size (ExR D) w' X.expr x6)) ∧ (l 7 = true → (l 9 = false → AgM V1.heap.size (EqnR D) w' X x7)) ∧ (l 8 = true → (l 9 = false → SlM V1.heap.size (EqnR D) 106 w' X x8)) ∧ (l 9 = true → ∃ (A8 : Option Addr) (cap8 : Nat) (F8 : List Nat), x9 = .slice A8 (j + 1) cap8 ∧ OwnS 9 (EqnR D) wc.heap.size 106 w' (x.eqs.take j ++ [X]) (.slice A8 (j + 1) cap8) F8 ∧ Below wc.heap.size V1 w') ∧ (l 10 = true → x10 = .pointer (some ⟨b, 4, none⟩)))) rfl (by kernel_rfl) ?h0 ?hstep ?hend
          case h0 => exact ⟨u25, u26, u27, u28, u29, u30, u31, u32, u33, u34, u35, by kernel_rfl, fun h => absurd h (by decide), fun h => absurd h (by decide), fun _ => ⟨fun h => absurd h (by decide), fun _ => (Below.refl _ _).drew, fun h => absurd h (by decide), fun h => absurd h (by decide), fun h => absurd h (by decide), fun h => absurd h (by decide), fun h => absurd h (by decide), fun h => absurd h (by decide), fun h => absurd h (by decide), fun h => absurd h (by decide), fun h => absurd h (by decide), fun h => absurd h (by decide), fun h => absurd h (by decide)⟩⟩
          case hstep =>
            refine ⟨?s0, ?s1, ?s2, ?s3, ?s4, ?s5, ?s6, ?s7, ?s8, ?s9, ?s10, ?s11, trivial⟩
            case s0 =>
              intro l a' w' hk hpre hJ K hK
              obtain ⟨x0, x1, x2, x3, x4, x5, x6, x7, x8, x9, x10, ha, hall, hfin, hfs⟩ := hJ
              have h12 : l 11 = false := upd_last hall hk (by decide)
              clear hall hfin
              obtain ⟨hA17, hB, f0, f1, f2, f3, f4, f5, f6, f7, f8, f9, f10⟩ := hfs h12
              clear hfs
              have h9 : l 9 = false := upd_last hA17 hk (by decide)
              have hBw := hB h9

              subst ha
              go_simp
              exact hK.out _ _ ⟨.pointer (some ⟨b, 4, none⟩), x1, x2, x3, x4, x5, x6, x7, x8, x9, x10, by kernel_rfl, fun h => absurd (updL_ne h (by decide)) (by rw [h12]; decide), fun h => absurd (updL_ne h (by decide)) (by rw [h12]; decide), fun _ => ⟨updL_all hA17 (by decide), fun h => hB (updL_f h), fun _ => rfl, fun h => f1 (updL_ne h (by decide)), fun h => f2 (updL_ne h (by decide)), fun h => f3 (updL_ne h (by decide)), fun h => f4 (updL_ne h (by decide)), fun h => f5 (updL_ne h (by decide)), fun h => AgM.monoC (ExR.good D) (Below.refl _ _) (f6 (updL_ne h (by decide))), fun h => AgM.monoC (EqnR.good D) (Below.refl _ _) (f7 (updL_ne h (by decide))), fun h => SlM.monoC (EqnR.good D) (Below.refl _ _) (f8 (updL_ne h (by decide))), fun h => absurd (updL_ne h (by decide)) (by rw [h9]; decide), fun h => f10 (updL_ne h (by decide))⟩⟩
            case s1 =>
              intro l a' w' hk hpre hJ K hK
              obtain ⟨x0, x1, x2, x3, x4, x5, x6, x7, x8, x9, x10, ha, hall, hfin, hfs⟩ := hJ
              have h12 : l 11 = false := upd_last hall hk (by decide)
              clear hall hfin
              obtain ⟨hA17, hB, f0, f1, f2, f3, f4, f5, f6, f7, f8, f9, f10⟩ := hfs h12
              clear hfs
              have p0 : l 0 = true := hpre 0 (by kernel_rfl)
              have h9 : l 9 = false := upd_last hA17 hk (by decide)
              have hBw := hB h9
              obtain rfl := f0 p0
              have q : w'.cell? ⟨b, 4, none⟩ = some (.slice Av j capv) := (hBw.cell (p := ⟨b, 4, none⟩) hbr).trans q4
              subst ha
              go_simp
              exact hK.out _ _ ⟨.pointer (some ⟨b, 4, none⟩), .slice Av j capv, x2, x3, x4, x5, x6, x7, x8, x9, x10, by kernel_rfl, fun h => absurd (updL_ne h (by decide)) (by rw [h12]; decide), fun h => absurd (updL_ne h (by decide)) (by rw [h12]; decide), fun _ => ⟨updL_all hA17 (by decide), fun h => hB (updL_f h), fun h => f0 (updL_ne h (by decide)), fun _ => rfl, fun h => f2 (updL_ne h (by decide)), fun h => f3 (updL_ne h (by decide)), fun h => f4 (updL_ne h (by decide)), fun h => f5 (updL_ne h (by decide)), fun h => AgM.monoC (ExR.good D) (Below.refl _ _) (f6 (updL_ne h (by decide))), fun h => AgM.monoC (EqnR.good D) (Below.refl _ _) (f7 (updL_ne h (by decide))), fun h => SlM.monoC (EqnR.good D) (Below.refl _ _) (f8 (updL_ne h (by decide))), fun h => absurd (updL_ne h (by decide)) (by rw [h9]; decide), fun h => f10 (updL_ne h (by decide))⟩⟩
            case s2 =>
              intro l a' w' hk hpre hJ K hK
              obtain ⟨x0, x1, x2, x3, x4, x5, x6, x7, x8, x9, x10, ha, hall, hfin, hfs⟩ := hJ
              have h12 : l 11 = false := upd_last hall hk (by decide)
              clear hall hfin
              obtain ⟨hA17, hB, f0, f1, f2, f3, f4, f5, f6, f7, f8, f9, f10⟩ := hfs h12
              clear hfs
              have h9 : l 9 = false := upd_last hA17 hk (by decide)
              have hBw := hB h9

              subst ha
              go_simp
              exact hK.out _ _ ⟨x0, x1, .pointer (some ⟨wr.heap.size, 0, none⟩), x3, x4, x5, x6, x7, x8, x9, x10, by kernel_rfl, fun h => absurd (updL_ne h (by decide)) (by rw [h12]; decide), fun h => absurd (updL_ne h (by decide)) (by rw [h12]; decide), fun _ => ⟨updL_all hA17 (by decide), fun h => hB (updL_f h), fun h => f0 (updL_ne h (by decide)), fun h => f1 (updL_ne h (by decide)), fun _ => rfl, fun h => f3 (updL_ne h (by decide)), fun h => f4 (updL_ne h (by decide)), fun h => f5 (updL_ne h (by decide)), fun h => AgM.monoC (ExR.good D) (Below.refl _ _) (f6 (updL_ne h (by decide))), fun h => AgM.monoC (EqnR.good D) (Below.refl _ _) (f7 (updL_ne h (by decide))), fun h => SlM.monoC (EqnR.good D) (Below.refl _ _) (f8 (updL_ne h (by decide))), fun h => absurd (updL_ne h (by decide)) (by rw [h9]; decide), fun h => f10 (updL_ne h (by decide))⟩⟩
            case s3 =>
              intro l a' w' hk hpre hJ K hK
              obtain ⟨x0, x1, x2, x3, x4, x5, x6, x7, x8, x9, x10, ha, hall, hfin, hfs⟩ := hJ
              have h12 : l 11 = false := upd_last hall hk (by decide)
              clear hall hfin
              obtain ⟨hA17, hB, f0, f1, f2, f3, f4, f5, f6, f7, f8, f9, f10⟩ := hfs h12
              clear hfs
              have p2 : l 2 = true := hpre 2 (by kernel_rfl)
              have h9 : l 9 = false := upd_last hA17 hk (by decide)
              have hBw := hB h9
              obtain rfl := f2 p2

              refine step_load rfl 65 (.tmp 27) rfl Try.underlying65 rfl (cs := [o0, o1]) (b := wr.heap.size) (off := 0) Hio.out (by rw [ha]; kernel_rfl) rfl (Hco.out.below hBw hpV) ?_
              subst ha
              exact hK.out _ _ ⟨x0, x1, .pointer (some ⟨wr.heap.size, 0, none⟩), .agg #[o0, o1], x4, x5, x6, x7, x8, x9, x10, by kernel_rfl, fun h => absurd (updL_ne h (by decide)) (by rw [h12]; decide), fun h => absurd (updL_ne h (by decide)) (by rw [h12]; decide), fun _ => ⟨updL_all hA17 (by decide), fun h => hB (updL_f h), fun h => f0 (updL_ne h (by decide)), fun h => f1 (updL_ne h (by decide)), fun h => f2 (updL_ne h (by decide)), fun _ => rfl, fun h => f4 (updL_ne h (by decide)), fun h => f5 (updL_ne h (by decide)), fun h => AgM.monoC (ExR.good D) (Below.refl _ _) (f6 (updL_ne h (by decide))), fun h => AgM.monoC (EqnR.good D) (Below.refl _ _) (f7 (updL_ne h (by decide))), fun h => SlM.monoC (EqnR.good D) (Below.refl _ _) (f8 (updL_ne h (by decide))), fun h => absurd (updL_ne h (by decide)) (by rw [h9]; decide), fun h => f10 (updL_ne h (by decide))⟩⟩
            case s4 =>
              intro l a' w' hk hpre hJ K hK
              obtain ⟨x0, x1, x2, x3, x4, x5, x6, x7, x8, x9, x10, ha, hall, hfin, hfs⟩ := hJ
              have h12 : l 11 = false := upd_last hall hk (by decide)
              clear hall hfin
              obtain ⟨hA17, hB, f0, f1, f2, f3, f4, f5, f6, f7, f8, f9, f10⟩ := hfs h12
              clear hfs
              have h9 : l 9 = false := upd_last hA17 hk (by decide)
              have hBw := hB h9

              subst ha
              go_simp
              exact hK.out _ _ ⟨x0, x1, x2, x3, .pointer (some ⟨wr.heap.size, 2, none⟩), x5, x6, x7, x8, x9, x10, by kernel_rfl, fun h => absurd (updL_ne h (by decide)) (by rw [h12]; decide), fun h => absurd (updL_ne h (by decide)) (by rw [h12]; decide), fun _ => ⟨updL_all hA17 (by decide), fun h => hB (updL_f h), fun h => f0 (updL_ne h (by decide)), fun h => f1 (updL_ne h (by decide)), fun h => f2 (updL_ne h (by decide)), fun h => f3 (updL_ne h (by decide)), fun _ => rfl, fun h => f5 (updL_ne h (by decide)), fun h => AgM.monoC (ExR.good D) (Below.refl _ _) (f6 (updL_ne h (by decide))), fun h => AgM.monoC (EqnR.good D) (Below.refl _ _) (f7 (updL_ne h (by decide))), fun h => SlM.monoC (EqnR.good D) (Below.refl _ _) (f8 (updL_ne h (by decide))), fun h => absurd (updL_ne h (by decide)) (by rw [h9]; decide), fun h => f10 (updL_ne h (by decide))⟩⟩
            case s5 =>
              intro l a' w' hk hpre hJ K hK
              obtain ⟨x0, x1, x2, x3, x4, x5, x6, x7, x8, x9, x10, ha, hall, hfin, hfs⟩ := hJ
              have h12 : l 11 = false := upd_last hall hk (by decide)
              clear hall hfin
              obtain ⟨hA17, hB, f0, f1, f2, f3, f4, f5, f6, f7, f8, f9, f10⟩ := hfs h12
              clear hfs
              have p4 : l 4 = true := hpre 4 (by kernel_rfl)
              have h9 : l 9 = false := upd_last hA17 hk (by decide)
              have hBw := hB h9
              obtain rfl := f4 p4

              refine step_load rfl 52 (.tmp 29) rfl Try.underlying52 rfl (cs := [e0, e1, e2, e3, e4, e5, e6]) (b := wr.heap.size) (off := 2) Hix.out (by rw [ha]; kernel_rfl) rfl (Hcx.out.below hBw hpV) ?_
              subst ha
              exact hK.out _ _ ⟨x0, x1, x2, x3, .pointer (some ⟨wr.heap.size, 2, none⟩), .agg #[e0, e1, e2, e3, e4, e5, e6], x6, x7, x8, x9, x10, by kernel_rfl, fun h => absurd (updL_ne h (by decide)) (by rw [h12]; decide), fun h => absurd (updL_ne h (by decide)) (by rw [h12]; decide), fun _ => ⟨updL_all hA17 (by decide), fun h => hB (updL_f h), fun h => f0 (updL_ne h (by decide)), fun h => f1 (updL_ne h (by decide)), fun h => f2 (updL_ne h (by decide)), fun h => f3 (updL_ne h (by decide)), fun h => f4 (updL_ne h (by decide)), fun _ => rfl, fun h => AgM.monoC (ExR.good D) (Below.refl _ _) (f6 (updL_ne h (by decide))), fun h => AgM.monoC (EqnR.good D) (Below.refl _ _) (f7 (updL_ne h (by decide))), fun h => SlM.monoC (EqnR.good D) (Below.refl _ _) (f8 (updL_ne h (by decide))), fun h => absurd (updL_ne h (by decide)) (by rw [h9]; decide), fun h => f10 (updL_ne h (by decide))⟩⟩
            case s6 =>
              intro l a' w' hk hpre hJ K hK
              obtain ⟨x0, x1, x2, x3, x4, x5, x6, x7, x8, x9, x10, ha, hall, hfin, hfs⟩ := hJ
              have h12 : l 11 = false := upd_last hall hk (by decide)
              clear hall hfin
              obtain ⟨hA17, hB, f0, f1, f2, f3, f4, f5, f6, f7, f8, f9, f10⟩ := hfs h12
              clear hfs
              have p5 : l 5 = true := hpre 5 (by kernel_rfl)
              have h9 : l 9 = false := upd_last hA17 hk (by decide)
              have hBw := hB h9
              obtain rfl := f5 p5

              subst ha
              go_simp
              go_at_call 82
              refine Calls.mono (i_copyExpr D X.expr [e0, e1, e2, e3, e4, e5, e6] FE w' ((ExR.good D).below HE.out hBw HFE.out) hbke) ?_
              rintro en w2 ⟨us, G2, rfl, hR2, hf2, hb2⟩
              exact hK.out _ _ ⟨x0, x1, x2, x3, x4, .agg #[e0, e1, e2, e3, e4, e5, e6], .agg (List.toArray us), x7, x8, x9, x10, by kernel_rfl, fun h => absurd (updL_ne h (by decide)) (by rw [h12]; decide), fun h => absurd (updL_ne h (by decide)) (by rw [h12]; decide), fun _ => ⟨updL_all hA17 (by decide), fun h => hBw.trans (hb2.mono hBw.size), fun h => f0 (updL_ne h (by decide)), fun h => f1 (updL_ne h (by decide)), fun h => f2 (updL_ne h (by decide)), fun h => f3 (updL_ne h (by decide)), fun h => f4 (updL_ne h (by decide)), fun h => f5 (updL_ne h (by decide)), fun _ => fun _ => ⟨us, G2, rfl, hR2, hf2.mono hBw.size⟩, fun h => AgM.monoC (EqnR.good D) hb2 (f7 (updL_ne h (by decide))), fun h => SlM.monoC (EqnR.good D) hb2 (f8 (updL_ne h (by decide))), fun h => absurd (updL_ne h (by decide)) (by rw [h9]; decide), fun h => f10 (updL_ne h (by decide))⟩⟩
            case s7 =>
              intro l a' w' hk hpre hJ K hK
              obtain ⟨x0, x1, x2, x3, x4, x5, x6, x7, x8, x9, x10, ha, hall, hfin, hfs⟩ := hJ
              have h12 : l 11 = false := upd_last hall hk (by decide)
              clear hall hfin
              obtain ⟨hA17, hB, f0, f1, f2, f3, f4, f5, f6, f7, f8, f9, f10⟩ := hfs h12
              clear hfs
              have p3 : l 3 = true := hpre 3 (by kernel_rfl)
              have p6 : l 6 = true := hpre 6 (by kernel_rfl)
              have h9 : l 9 = false := upd_last hA17 hk (by decide)
              have hBw := hB h9
              obtain rfl := f3 p3
              obtain ⟨us, G2, rfl, hm⟩ := f6 p6 h9
              obtain ⟨u0, u1, u2, u3, u4, u5, u6, rfl⟩ := list7 ((ExR.good D).len hm.1)
              subst ha
              go_simp
              exact hK.out _ _ ⟨x0, x1, x2, .agg #[o0, o1], x4, x5, .agg #[u0, u1, u2, u3, u4, u5, u6], .agg #[o0, o1, u0, u1, u2, u3, u4, u5, u6], x8, x9, x10, by kernel_rfl, fun h => absurd (updL_ne h (by decide)) (by rw [h12]; decide), fun h => absurd (updL_ne h (by decide)) (by rw [h12]; decide), fun _ => ⟨updL_all hA17 (by decide), fun h => hB (updL_f h), fun h => f0 (updL_ne h (by decide)), fun h => f1 (updL_ne h (by decide)), fun h => f2 (updL_ne h (by decide)), fun h => f3 (updL_ne h (by decide)), fun h => f4 (updL_ne h (by decide)), fun h => f5 (updL_ne h (by decide)), fun h => AgM.monoC (ExR.good D) (Below.refl _ _) (f6 (updL_ne h (by decide))), fun _ => fun _ => ⟨[o0, o1, u0, u1, u2, u3, u4, u5, u6], G2, rfl, EqnR.of HO.out hm.1, hm.2⟩, fun h => SlM.monoC (EqnR.good D) (Below.refl _ _) (f8 (updL_ne h (by decide))), fun h => absurd (updL_ne h (by decide)) (by rw [h9]; decide), fun h => f10 (updL_ne h (by decide))⟩⟩
            case s8 =>
              intro l a' w' hk hpre hJ K hK
              obtain ⟨x0, x1, x2, x3, x4, x5, x6, x7, x8, x9, x10, ha, hall, hfin, hfs⟩ := hJ
              have h12 : l 11 = false := upd_last hall hk (by decide)
              clear hall hfin
              obtain ⟨hA17, hB, f0, f1, f2, f3, f4, f5, f6, f7, f8, f9, f10⟩ := hfs h12
              clear hfs
              have p7 : l 7 = true := hpre 7 (by kernel_rfl)
              have h9 : l 9 = false := upd_last hA17 hk (by decide)
              have hBw := hB h9
              obtain ⟨us, G2, rfl, hm⟩ := f7 p7 h9
              obtain ⟨u0, u1, u2, u3, u4, u5, u6, u7, u8, rfl⟩ := list_9 ((EqnR.good D).len hm.1)
              subst ha
              go_simp
              exact hK.out _ _ ⟨x0, x1, x2, x3, x4, x5, x6, .agg #[u0, u1, u2, u3, u4, u5, u6, u7, u8], .slice (some ⟨w'.heap.size, 0, none⟩) 1 1, x9, x10, by kernel_rfl, fun h => absurd (updL_ne h (by decide)) (by rw [h12]; decide), fun h => absurd (updL_ne h (by decide)) (by rw [h12]; decide), fun _ => ⟨updL_all hA17 (by decide), fun h => hBw.alloc hBw.size _, fun h => f0 (updL_ne h (by decide)), fun h => f1 (updL_ne h (by decide)), fun h => f2 (updL_ne h (by decide)), fun h => f3 (updL_ne h (by decide)), fun h => f4 (updL_ne h (by decide)), fun h => f5 (updL_ne h (by decide)), fun h => AgM.monoC (ExR.good D) ((Below.refl _ _).alloc (Nat.le_refl _) _) (f6 (updL_ne h (by decide))), fun h => AgM.monoC (EqnR.good D) ((Below.refl _ _).alloc (Nat.le_refl _) _) (f7 (updL_ne h (by decide))), fun _ => fun _ => ⟨_, [u0, u1, u2, u3, u4, u5, u6, u7, u8], G2, rfl, New.made hBw.size _ _, hm.below (EqnR.good D) ((Below.refl _ _).alloc (Nat.le_refl _) _)⟩, fun h => absurd (updL_ne h (by decide)) (by rw [h9]; decide), fun h => f10 (updL_ne h (by decide))⟩⟩
            case s9 =>
              intro l a' w' hk hpre hJ K hK
              obtain ⟨x0, x1, x2, x3, x4, x5, x6, x7, x8, x9, x10, ha, hall, hfin, hfs⟩ := hJ
              have h12 : l 11 = false := upd_last hall hk (by decide)
              clear hall hfin
              obtain ⟨hA17, hB, f0, f1, f2, f3, f4, f5, f6, f7, f8, f9, f10⟩ := hfs h12
              clear hfs
              have p1 : l 1 = true := hpre 1 (by kernel_rfl)
              have p8 : l 8 = true := hpre 8 (by kernel_rfl)
              obtain rfl := f1 p1
              obtain ⟨g8, us, G2, rfl, hg, hm⟩ := f8 p8 hk
              have hBw := hB hk
              refine step_ownQ rfl (.tmp 26) (.tmp 33) 28 106 rfl Try.underlying28 infoEqn rfl (by decide) (EqnR.good D) V1.heap.size w' wc.heap.size (.slice Av j capv) (x.eqs.take j) F' (HownV.out.below (EqnR.good D) hBw) (by rw [ha]; kernel_rfl) HFl.out HVl.out X us G2 hm (EqnR.one hm.1) g8 (by rw [ha]; kernel_rfl) hg Hb1.out Hb2.out hwcr ?_
              intro v8 w8 hown8 hbl8 hgr8
              obtain ⟨A8, cap8, hv8, _, _⟩ := hown8.form
              rw [Htl.out] at hv8
              subst hv8
              have hB8 : Below wc.heap.size V1 w8 := (hBw.mono hwcr).trans hbl8
              subst ha
              exact hK.out _ _ ⟨x0, .slice Av j capv, x2, x3, x4, x5, x6, x7, .slice (some ⟨g8, 0, none⟩) 1 1, .slice A8 (j + 1) cap8, x10, by kernel_rfl, fun h => absurd (updL_ne h (by decide)) (by rw [h12]; decide), fun h => absurd (updL_ne h (by decide)) (by rw [h12]; decide), fun _ => ⟨fun _ => deep_all hpre (by kernel_rfl) _, fun h2 => absurd h2 (by rw [updL_self]; decide), fun h => f0 (updL_ne h (by decide)), fun h => f1 (updL_ne h (by decide)), fun h => f2 (updL_ne h (by decide)), fun h => f3 (updL_ne h (by decide)), fun h => f4 (updL_ne h (by decide)), fun h => f5 (updL_ne h (by decide)), fun h => fun h2 => absurd h2 (by rw [updL_self]; decide), fun h => fun h2 => absurd h2 (by rw [updL_self]; decide), fun h => fun h2 => absurd h2 (by rw [updL_self]; decide), fun _ => ⟨A8, cap8, _, rfl, hown8, hB8⟩, fun h => f10 (updL_ne h (by decide))⟩⟩
            case s10 =>
              intro l a' w' hk hpre hJ K hK
              obtain ⟨x0, x1, x2, x3, x4, x5, x6, x7, x8, x9, x10, ha, hall, hfin, hfs⟩ := hJ
              have h12 : l 11 = false := upd_last hall hk (by decide)
              clear hall hfin
              obtain ⟨hA17, hB, f0, f1, f2, f3, f4, f5, f6, f7, f8, f9, f10⟩ := hfs h12
              clear hfs
              subst ha
              go_simp
              exact hK.out _ _ ⟨x0, x1, x2, x3, x4, x5, x6, x7, x8, x9, .pointer (some ⟨b, 4, none⟩), by kernel_rfl, fun h => absurd (updL_ne h (by decide)) (by rw [h12]; decide), fun h => absurd (updL_ne h (by decide)) (by rw [h12]; decide), fun _ => ⟨updL_all hA17 (by decide), fun h => hB (updL_f h), fun h => f0 (updL_ne h (by decide)), fun h => f1 (updL_ne h (by decide)), fun h => f2 (updL_ne h (by decide)), fun h => f3 (updL_ne h (by decide)), fun h => f4 (updL_ne h (by decide)), fun h => f5 (updL_ne h (by decide)), fun h => AgM.monoC (ExR.good D) (Below.refl _ _) (f6 (updL_ne h (by decide))), fun h => AgM.monoC (EqnR.good D) (Below.refl _ _) (f7 (updL_ne h (by decide))), fun h => SlM.monoC (EqnR.good D) (Below.refl _ _) (f8 (updL_ne h (by decide))), fun h => (f9 (updL_ne h (by decide))), fun _ => rfl⟩⟩
            case s11 =>
              intro l a' w' hk hpre hJ K hK
              obtain ⟨x0, x1, x2, x3, x4, x5, x6, x7, x8, x9, x10, ha, hall, hfin, hfs⟩ := hJ
              have h12 : l 11 = false := hk
              clear hall hfin
              obtain ⟨hA17, hB, f0, f1, f2, f3, f4, f5, f6, f7, f8, f9, f10⟩ := hfs h12
              clear hfs
              have p9 : l 9 = true := hpre 9 (by kernel_rfl)
              have p10 : l 10 = true := hpre 10 (by kernel_rfl)
              clear hA17 hB f0 f1 f2 f3 f4 f5 f6 f7 f8
              obtain ⟨A8, cap8, F8, rfl, hown8, hB8⟩ := f9 p9
              obtain rfl := f10 p10
              clear f9 f10
              have hbx := blk_below HbxV.out hB8 hbwc
              have q := cell_at (i := 4) hbx (by simp)
              have y := frozen_of_row w' _ 4 _ _ hbx
              subst ha
              go_simp
              exact hK.out _ _ ⟨x0, x1, x2, x3, x4, x5, x6, x7, x8, .slice A8 (j + 1) cap8, .pointer (some ⟨b, 4, none⟩), by kernel_rfl, fun _ => deep_all hpre (by kernel_rfl) _, fun _ => ⟨w', A8, cap8, F8, hown8, hB8, rfl⟩, fun h => absurd h (by simp [updL])⟩
          case hend =>
            intro l a' w' hl hJ
            obtain ⟨x0, x1, x2, x3, x4, x5, x6, x7, x8, x9, x10, ha, _, hfin, _⟩ := hJ
            simp [go_sem] at ha
            subst ha
            replace hfin := hfin (hl 11 (by decide))
            clear hl
            obtain ⟨W5, A8, cap8, F8, hown8, hB8, rfl⟩ := hfin
            have hbx1 := blk_below HbxV.out hB8 hbwc
            have hb9 := heap_setCell_same W5 b 4 _ _ (.slice A8 (j + 1) cap8) hbx1
            have Hb9 : Hid ((W5.setCell ⟨b, 4, none⟩ (.slice A8 (j + 1) cap8)).heap[b]? = some (.cells #[.string x.name, .string x.left, .slice A x.right.length cap, .bool x.lit, .slice A8 (j + 1) cap8, .slice none 0 0] 31 (0, 0))) := hide hb9
            have Hg9 : Hid (wc.grownBy (W5.setCell ⟨b, 4, none⟩ (.slice A8 (j + 1) cap8)) (some b)) := hide (mk_cell (mk_base HgrV.out hB8 (Nat.le_refl _)))
            have Ho9 := hide (OwnS.same (EqnR.good D) hown8 (fun k h1 h2 => heap_setCell_other W5 ⟨b, 4, none⟩ k (.slice A8 (j + 1) cap8) (by show k ≠ b; omega)) (by simp))
            clear hown8 hB8 hbx1 hb9
            generalize W5.setCell ⟨b, 4, none⟩ (.slice A8 (j + 1) cap8) = W9 at Hb9 Hg9 Ho9 ⊢
            go_wp2_with fail
            go_roundw
            case rel => exact ⟨j + 1, _, F8, by omega, by go_num, Hg9, Hb9, hide (by rw [take_snoc HX.out]; exact Ho9.out)⟩
            case measure => simp [intOf]; omega
        · have hjl : j = x.eqs.length := by omega
          subst hjl
          rw [List.take_length] at Hown
          obtain ⟨W1, hW1⟩ : ∃ W, W = wr := ⟨_, rfl⟩
          subst hW1
          have hb1W : b < W1.heap.size := by omega
          have Hg1 := Hgr
          have Hown1 := Hown
          have Hbx1 := Hbx
          have hwr1 := hwr
          have hwr21 := hwr2
          have qc5 := E5.out W1 hwr2
          obtain ⟨FQ, hFQ⟩ : ∃ F, F = F' := ⟨_, rfl⟩
          subst hFQ
          have hwcr := hwcr0
          clear Hgr Hown hlt hj hwr hwr2 hwcr0
          go_wp2_with fail
          go_loopw [40] (fun i wr => ∃ (j : Nat) (u : Value) (F' : List Nat), j ≤ x.cons.length ∧ i = .int .i64 j ∧ Hid (W1.grownBy wr (some b)) ∧ Hid (wr.heap[b]? = some (.cells #[.string x.name, .string x.left, .slice A x.right.length cap, .bool x.lit, v, u] 31 (0, 0))) ∧ Hid (OwnS 16 (ConR D) W1.heap.size 109 wr (x.cons.take j) u F')) (fun i _ => x.cons.length - (intOf i).toNat)
          case atStart => exact ⟨0, _, [], by omega, rfl, hide ⟨rfl, rfl, rfl, Nat.le_refl _, fun _ _ _ => rfl⟩, Hbx1, hide (OwnS.nil _)⟩
          case round =>
            obtain ⟨j, u, F', hj, rfl, Hgr, Hbx, Hown⟩ := hrel
            have hwr : Below w.heap.size w wr := hwr1.grown Hgr.out (by omega) (fun k hk => by injection hk with hk; omega)
            have hwr2 : Below (w.heap.size + 2) W0 wr := hwr21.grown Hgr.out (by omega) (fun k hk => by injection hk with hk; omega)
            have hwcr0 : W1.heap.size ≤ wr.heap.size := Hgr.out.size
            by_cases hlt : j < x.cons.length
            · have hX : x.cons[j]? = some x.cons[j] := List.getElem?_eq_getElem hlt
              generalize x.cons[j] = X at hX
              obtain ⟨be, off, es, Fk, hA, _, hbF, hFk, hcl, hcatE, hR⟩ := SlR.get (ConR.good D) (Hg5.out.below (ConR.good D) hwr HF5.out) hX
              subst hA
              have HX := hide hX
              have hbkq := HQ2.out X (List.mem_of_getElem? hX)
              have hbew : be < w.heap.size := HF5.out be hbF
              have hbe : be < wr.heap.size := by omega
              have HoneC := hide (ConR.one hR)
              obtain ⟨Au, capu, hv, _, _⟩ := Hown.out.form
              rw [List.length_take, Nat.min_eq_left hj] at hv
              subst hv
              obtain ⟨FT, FV, h16, hok, hs0, hs1, hT, hV, hFe⟩ := hR
              obtain ⟨c0, c1, c2, c3, c4, c5, c6, c7, c8, c9, c10, c11, c12, c13, c14, c15, rfl⟩ := list_16 h16
              obtain rfl := Option.some.inj hs0
              obtain rfl := Option.some.inj hs1
              have Hok := hide hok
              have Hce := hide hcatE
              have Hn : Hid (([.string X.symbol, .string X.name, c2, c3, c4, c5, c6, c7, c8, c9, c10, c11, c12, c13, c14, c15] : List Value).length = 16) := hide rfl
              have hj0 : (0 : Int) ≤ (j : Int) := by omega
              have hj1 : (j : Int) < (x.cons.length : Int) := by omega
              have HT := hide hT
              have HV := hide hV
              clear hX hbF hFk hcl hcatE hok hs0 hs1 hT hV hFe h16
              go_wp2_with (first
                | refine wpList_load_at 109 (.tmp 42) rfl Try.underlying109 rfl Hic.out rfl rfl Hn.out Hce.out ?_
                | (refine wpList_store_new 109 (.tmp 7) (.tmp 43) rfl Hic.out rfl rfl rfl rfl Hn.out HoneC.out rfl ?_; refine hold ?_))
              have hb6 := heap_alloc_new wr (Obj.cells #[.string X.symbol, .string X.name, c2, c3, c4, c5, c6, c7, c8, c9, c10, c11, c12, c13, c14, c15] 109)
              have hBV : Below wr.heap.size wr (wr.alloc (Obj.cells #[.string X.symbol, .string X.name, c2, c3, c4, c5, c6, c7, c8, c9, c10, c11, c12, c13, c14, c15] 109)) := (Below.refl _ _).alloc (Nat.le_refl _) _
              generalize wr.alloc (Obj.cells #[.string X.symbol, .string X.name, c2, c3, c4, c5, c6, c7, c8, c9, c10, c11, c12, c13, c14, c15] 109) = V1 at hb6 hBV ⊢
              have hpV : wr.heap.size < V1.heap.size := blk_lt hb6
              have HBV := hide hBV
              have Hb6 := hide hb6
              have HFT0 := hide ((ExR.good D).lt HT.out)
              have HFV0 := hide ((ExR.good D).lt HV.out)
              have HET : Hid (ExR D V1 X.target [c2, c3, c4, c5, c6, c7, c8] FT) := hide ((ExR.good D).below HT.out hBV HFT0.out)
              have HEV : Hid (ExR D V1 X.value [c9, c10, c11, c12, c13, c14, c15] FV) := hide ((ExR.good D).below HV.out hBV HFV0.out)
              have HFT : Hid (∀ k ∈ FT, k < V1.heap.size) := hide (fun k hk => Nat.lt_trans (HFT0.out k hk) hpV)
              have HFV : Hid (∀ k ∈ FV, k < V1.heap.size) := hide (fun k hk => Nat.lt_trans (HFV0.out k hk) hpV)
              have HcB : Hid (CellsAt V1 wr.heap.size 0 [.string X.symbol, .string X.name, c2, c3, c4, c5, c6, c7, c8, c9, c10, c11, c12, c13, c14, c15]) := hide (fun i u hu => by
                rw [cell_of_row _ _ _ _ _ _ hb6, Nat.zero_add]
                simpa using hu)
              have HcT : Hid (CellsAt V1 wr.heap.size 2 [c2, c3, c4, c5, c6, c7, c8]) := hide (HcB.out.sub 2 7)
              have HcV : Hid (CellsAt V1 wr.heap.size 9 [c9, c10, c11, c12, c13, c14, c15]) := hide (HcB.out.sub 9 7)
              clear hb6 hBV HFT0 HFV0 HT HV
              refine Hold.go ?_
              go_wp2_with fail
              refine region_invA (fun a0 l a' w' => ∃ x0 x1 x2 x3 x4 x5 x6 x8 : Value, a' = ((((((((a0.put (some 44) x0).put (some 45) x1).put (some 46) x2).put (some 47) x3).put (some 48) x4).put (some 49) x5).put (some 50) x6).put (some 51) x8) ∧ (l 9 = true → ∀ i, i < 9 → l i = true) ∧ (l 9 = true → ∃ (us : List Value) (G2 : List Nat) (vs : List Value) (G3 : List Nat), Made V1.heap.size (ExR D) w' X.target us G2 ∧ Made V1.heap.size (ExR D) w' X.value vs G3 ∧ (∀ k ∈ G2, k ∉ G3) ∧ Below wr.heap.size V1 w' ∧ w'.heap[wr.heap.size]? = some (.cells (List.toArray (.string X.symbol :: .string X.name :: (us ++ vs))) 109 (0, 0))) ∧ (l 9 = false → (l 7 = true → ∀ i, i < 7 → l i = true) ∧ (l 7 = false → Below V1.heap.size V1 w') ∧ (l 2 = true → l 5 = true → l 7 = false → Two V1.heap.size (ExR D) w' X.target X.value x2 x5) ∧ (l 7 = true → ∃ (W2 : World) (us : List Value) (G2 : List Nat) (vs : List Value) (G3 : List Nat), x2 = .agg (List.toArray us) ∧ x5 = .agg (List.toArray vs) ∧ Made V1.heap.size (ExR D) W2 X.target us G2 ∧ Made V1.heap.size (ExR D) W2 X.value vs G3 ∧ (∀ k ∈ G2, k ∉ G3) ∧ Below V1.heap.size V1 W2 ∧ Put W2 wr.heap.size 2 us #[.string X.symbol, .string X.name, c2, c3, c4, c5, c6, c7, c8, c9, c10, c11, c12, c13, c14, c15] 109 w') ∧ (l 0 = true → x0 = .pointer (some ⟨wr.heap.size, 2, none⟩)) ∧ (l 1 = true → x1 = .agg #[c2, c3, c4, c5, c6, c7, c8]) ∧ (l 2 = true → (l 7 = false → AgM V1.heap.size (ExR D) w' X.target x2)) ∧ (l 3 = true → x3 = .pointer (some ⟨wr.heap.size, 9, none⟩)) ∧ (l 4 = true → x4 = .agg #[c9, c10, c11, c12, c13, c14, c15]) ∧ (l 5 = true → (l 7 = false → AgM V1.heap.size (ExR D) w' X.value x5)) ∧ (l 6 = true → x6 = .pointer (some ⟨wr.heap.size, 2, none⟩)) ∧ (l 8 = true → x8 = .pointer (some ⟨wr.heap.size, 9, none⟩)))) rfl (by kernel_rfl) ?h0 ?hstep ?hend
              case h0 => exact ⟨u44, u45, u46, u47, u48, u49, u50, u51, by kernel_rfl, fun h => absurd h (by decide), fun h => absurd h (by decide), fun _ => ⟨fun h => absurd h (by decide), fun _ => (Below.refl _ _).drew, fun h => absurd h (by decide), fun h => absurd h (by decide), fun h => absurd h (by decide), fun h => absurd h (by decide), fun h => absurd h (by decide), fun h => absurd h (by decide), fun h => absurd h (by decide), fun h => absurd h (by decide), fun h => absurd h (by decide), fun h => absurd h (by decide)⟩⟩
              case hstep =>
                refine ⟨?s0, ?s1, ?s2, ?s3, ?s4, ?s5, ?s6, ?s7, ?s8, ?s9, trivial⟩
                case s0 =>
                  intro l a' w' hk hpre hJ K hK
                  obtain ⟨x0, x1, x2, x3, x4, x5, x6, x8, ha, hall, hfin, hfs⟩ := hJ
                  have h12 : l 9 = false := upd_last hall hk (by decide)
                  clear hall hfin
                  obtain ⟨hA7, hB, hd, hp, f0, f1, f2, f3, f4, f5, f6, f8⟩ := hfs h12
                  clear hfs
                  have h7 : l 7 = false := upd_last hA7 hk (by decide)
                  have hBw := hB h7

                  subst ha
                  go_simp
                  exact hK.out _ _ ⟨.pointer (some ⟨wr.heap.size, 2, none⟩), x1, x2, x3, x4, x5, x6, x8, by kernel_rfl, fun h => absurd (updL_ne h (by decide)) (by rw [h12]; decide), fun h => absurd (updL_ne h (by decide)) (by rw [h12]; decide), fun _ => ⟨updL_all hA7 (by decide), fun h => hB (updL_f h), fun h1 h2 h3 => (hd (updL_ne h1 (by decide)) (updL_ne h2 (by decide)) (updL_f h3)).mono (ExR.good D) (Below.refl _ _), fun h => absurd (updL_ne h (by decide)) (by rw [h7]; decide), fun _ => rfl, fun h => f1 (updL_ne h (by decide)), fun h => AgM.monoC (ExR.good D) (Below.refl _ _) (f2 (updL_ne h (by decide))), fun h => f3 (updL_ne h (by decide)), fun h => f4 (updL_ne h (by decide)), fun h => AgM.monoC (ExR.good D) (Below.refl _ _) (f5 (updL_ne h (by decide))), fun h => f6 (updL_ne h (by decide)), fun h => f8 (updL_ne h (by decide))⟩⟩
                case s1 =>
                  intro l a' w' hk hpre hJ K hK
                  obtain ⟨x0, x1, x2, x3, x4, x5, x6, x8, ha, hall, hfin, hfs⟩ := hJ
                  have h12 : l 9 = false := upd_last hall hk (by decide)
                  clear hall hfin
                  obtain ⟨hA7, hB, hd, hp, f0, f1, f2, f3, f4, f5, f6, f8⟩ := hfs h12
                  clear hfs
                  have p0 : l 0 = true := hpre 0 (by kernel_rfl)
                  have h7 : l 7 = false := upd_last hA7 hk (by decide)
                  have hBw := hB h7
                  obtain rfl := f0 p0

                  refine step_load rfl 52 (.tmp 44) rfl Try.underlying52 rfl (cs := [c2, c3, c4, c5, c6, c7, c8]) (b := wr.heap.size) (off := 2) Hix.out (by rw [ha]; kernel_rfl) rfl (HcT.out.below hBw hpV) ?_
                  subst ha
                  exact hK.out _ _ ⟨.pointer (some ⟨wr.heap.size, 2, none⟩), .agg #[c2, c3, c4, c5, c6, c7, c8], x2, x3, x4, x5, x6, x8, by kernel_rfl, fun h => absurd (updL_ne h (by decide)) (by rw [h12]; decide), fun h => absurd (updL_ne h (by decide)) (by rw [h12]; decide), fun _ => ⟨updL_all hA7 (by decide), fun h => hB (updL_f h), fun h1 h2 h3 => (hd (updL_ne h1 (by decide)) (updL_ne h2 (by decide)) (updL_f h3)).mono (ExR.good D) (Below.refl _ _), fun h => absurd (updL_ne h (by decide)) (by rw [h7]; decide), fun h => f0 (updL_ne h (by decide)), fun _ => rfl, fun h => AgM.monoC (ExR.good D) (Below.refl _ _) (f2 (updL_ne h (by decide))), fun h => f3 (updL_ne h (by decide)), fun h => f4 (updL_ne h (by decide)), fun h => AgM.monoC (ExR.good D) (Below.refl _ _) (f5 (updL_ne h (by decide))), fun h => f6 (updL_ne h (by decide)), fun h => f8 (updL_ne h (by decide))⟩⟩
                case s2 =>
                  intro l a' w' hk hpre hJ K hK
                  obtain ⟨x0, x1, x2, x3, x4, x5, x6, x8, ha, hall, hfin, hfs⟩ := hJ
                  have h12 : l 9 = false := upd_last hall hk (by decide)
                  clear hall hfin
                  obtain ⟨hA7, hB, hd, hp, f0, f1, f2, f3, f4, f5, f6, f8⟩ := hfs h12
                  clear hfs
                  have p1 : l 1 = true := hpre 1 (by kernel_rfl)
                  have h7 : l 7 = false := upd_last hA7 hk (by decide)
                  have hBw := hB h7
                  obtain rfl := f1 p1

                  subst ha
                  go_simp
                  go_at_call 82
                  refine Calls.mono (i_copyExpr D X.target [c2, c3, c4, c5, c6, c7, c8] FT w' ((ExR.good D).below HET.out hBw HFT.out) hbkq.1) ?_
                  rintro en w2 ⟨us, G2, rfl, hR2, hf2, hb2⟩
                  exact hK.out _ _ ⟨x0, .agg #[c2, c3, c4, c5, c6, c7, c8], .agg (List.toArray us), x3, x4, x5, x6, x8, by kernel_rfl, fun h => absurd (updL_ne h (by decide)) (by rw [h12]; decide), fun h => absurd (updL_ne h (by decide)) (by rw [h12]; decide), fun _ => ⟨updL_all hA7 (by decide), fun h => hBw.trans (hb2.mono hBw.size), fun h1 h2 h3 => Two.left (ExR.good D) (f5 (updL_ne h2 (by decide)) (updL_f h3)) hb2 hR2 hf2 hBw.size, fun h => absurd (updL_ne h (by decide)) (by rw [h7]; decide), fun h => f0 (updL_ne h (by decide)), fun h => f1 (updL_ne h (by decide)), fun _ => fun _ => ⟨us, G2, rfl, hR2, hf2.mono hBw.size⟩, fun h => f3 (updL_ne h (by decide)), fun h => f4 (updL_ne h (by decide)), fun h => AgM.monoC (ExR.good D) hb2 (f5 (updL_ne h (by decide))), fun h => f6 (updL_ne h (by decide)), fun h => f8 (updL_ne h (by decide))⟩⟩
                case s3 =>
                  intro l a' w' hk hpre hJ K hK
                  obtain ⟨x0, x1, x2, x3, x4, x5, x6, x8, ha, hall, hfin, hfs⟩ := hJ
                  have h12 : l 9 = false := upd_last hall hk (by decide)
                  clear hall hfin
                  obtain ⟨hA7, hB, hd, hp, f0, f1, f2, f3, f4, f5, f6, f8⟩ := hfs h12
                  clear hfs
                  have h7 : l 7 = false := upd_last hA7 hk (by decide)
                  have hBw := hB h7

                  subst ha
                  go_simp
                  exact hK.out _ _ ⟨x0, x1, x2, .pointer (some ⟨wr.heap.size, 9, none⟩), x4, x5, x6, x8, by kernel_rfl, fun h => absurd (updL_ne h (by decide)) (by rw [h12]; decide), fun h => absurd (updL_ne h (by decide)) (by rw [h12]; decide), fun _ => ⟨updL_all hA7 (by decide), fun h => hB (updL_f h), fun h1 h2 h3 => (hd (updL_ne h1 (by decide)) (updL_ne h2 (by decide)) (updL_f h3)).mono (ExR.good D) (Below.refl _ _), fun h => absurd (updL_ne h (by decide)) (by rw [h7]; decide), fun h => f0 (updL_ne h (by decide)), fun h => f1 (updL_ne h (by decide)), fun h => AgM.monoC (ExR.good D) (Below.refl _ _) (f2 (updL_ne h (by decide))), fun _ => rfl, fun h => f4 (updL_ne h (by decide)), fun h => AgM.monoC (ExR.good D) (Below.refl _ _) (f5 (updL_ne h (by decide))), fun h => f6 (updL_ne h (by decide)), fun h => f8 (updL_ne h (by decide))⟩⟩
                case s4 =>
                  intro l a' w' hk hpre hJ K hK
                  obtain ⟨x0, x1, x2, x3, x4, x5, x6, x8, ha, hall, hfin, hfs⟩ := hJ
                  have h12 : l 9 = false := upd_last hall hk (by decide)
                  clear hall hfin
                  obtain ⟨hA7, hB, hd, hp, f0, f1, f2, f3, f4, f5, f6, f8⟩ := hfs h12
                  clear hfs
                  have p3 : l 3 = true := hpre 3 (by kernel_rfl)
                  have h7 : l 7 = false := upd_last hA7 hk (by decide)
                  have hBw := hB h7
                  obtain rfl := f3 p3

                  refine step_load rfl 52 (.tmp 47) rfl Try.underlying52 rfl (cs := [c9, c10, c11, c12, c13, c14, c15]) (b := wr.heap.size) (off := 9) Hix.out (by rw [ha]; kernel_rfl) rfl (HcV.out.below hBw hpV) ?_
                  subst ha
                  exact hK.out _ _ ⟨x0, x1, x2, .pointer (some ⟨wr.heap.size, 9, none⟩), .agg #[c9, c10, c11, c12, c13, c14, c15], x5, x6, x8, by kernel_rfl, fun h => absurd (updL_ne h (by decide)) (by rw [h12]; decide), fun h => absurd (updL_ne h (by decide)) (by rw [h12]; decide), fun _ => ⟨updL_all hA7 (by decide), fun h => hB (updL_f h), fun h1 h2 h3 => (hd (updL_ne h1 (by decide)) (updL_ne h2 (by decide)) (updL_f h3)).mono (ExR.good D) (Below.refl _ _), fun h => absurd (updL_ne h (by decide)) (by rw [h7]; decide), fun h => f0 (updL_ne h (by decide)), fun h => f1 (updL_ne h (by decide)), fun h => AgM.monoC (ExR.good D) (Below.refl _ _) (f2 (updL_ne h (by decide))), fun h => f3 (updL_ne h (by decide)), fun _ => rfl, fun h => AgM.monoC (ExR.good D) (Below.refl _ _) (f5 (updL_ne h (by decide))), fun h => f6 (updL_ne h (by decide)), fun h => f8 (updL_ne h (by decide))⟩⟩
                case s5 =>
                  intro l a' w' hk hpre hJ K hK
                  obtain ⟨x0, x1, x2, x3, x4, x5, x6, x8, ha, hall, hfin, hfs⟩ := hJ
                  have h12 : l 9 = false := upd_last hall hk (by decide)
                  clear hall hfin
                  obtain ⟨hA7, hB, hd, hp, f0, f1, f2, f3, f4, f5, f6, f8⟩ := hfs h12
                  clear hfs
                  have p4 : l 4 = true := hpre 4 (by kernel_rfl)
                  have h7 : l 7 = false := upd_last hA7 hk (by decide)
                  have hBw := hB h7
                  obtain rfl := f4 p4

                  subst ha
                  go_simp
                  go_at_call 82
                  refine Calls.mono (i_copyExpr D X.value [c9, c10, c11, c12, c13, c14, c15] FV w' ((ExR.good D).below HEV.out hBw HFV.out) hbkq.2) ?_
                  rintro en w2 ⟨us, G2, rfl, hR2, hf2, hb2⟩
                  exact hK.out _ _ ⟨x0, x1, x2, x3, .agg #[c9, c10, c11, c12, c13, c14, c15], .agg (List.toArray us), x6, x8, by kernel_rfl, fun h => absurd (updL_ne h (by decide)) (by rw [h12]; decide), fun h => absurd (updL_ne h (by decide)) (by rw [h12]; decide), fun _ => ⟨updL_all hA7 (by decide), fun h => hBw.trans (hb2.mono hBw.size), fun h1 h2 h3 => Two.right (ExR.good D) (f2 (updL_ne h1 (by decide)) (updL_f h3)) hb2 hR2 hf2 hBw.size, fun h => absurd (updL_ne h (by decide)) (by rw [h7]; decide), fun h => f0 (updL_ne h (by decide)), fun h => f1 (updL_ne h (by decide)), fun h => AgM.monoC (ExR.good D) hb2 (f2 (updL_ne h (by decide))), fun h => f3 (updL_ne h (by decide)), fun h => f4 (updL_ne h (by decide)), fun _ => fun _ => ⟨us, G2, rfl, hR2, hf2.mono hBw.size⟩, fun h => f6 (updL_ne h (by decide)), fun h => f8 (updL_ne h (by decide))⟩⟩
                case s6 =>
                  intro l a' w' hk hpre hJ K hK
                  obtain ⟨x0, x1, x2, x3, x4, x5, x6, x8, ha, hall, hfin, hfs⟩ := hJ
                  have h12 : l 9 = false := upd_last hall hk (by decide)
                  clear hall hfin
                  obtain ⟨hA7, hB, hd, hp, f0, f1, f2, f3, f4, f5, f6, f8⟩ := hfs h12
                  clear hfs
                  subst ha
                  go_simp
                  exact hK.out _ _ ⟨x0, x1, x2, x3, x4, x5, .pointer (some ⟨wr.heap.size, 2, none⟩), x8, by kernel_rfl, fun h => absurd (updL_ne h (by decide)) (by rw [h12]; decide), fun h => absurd (updL_ne h (by decide)) (by rw [h12]; decide), fun _ => ⟨updL_all hA7 (by decide), fun h => hB (updL_f h), fun h1 h2 h3 => (hd (updL_ne h1 (by decide)) (updL_ne h2 (by decide)) (updL_f h3)).mono (ExR.good D) (Below.refl _ _), fun h => hp (updL_ne h (by decide)), fun h => f0 (updL_ne h (by decide)), fun h => f1 (updL_ne h (by decide)), fun h => AgM.monoC (ExR.good D) (Below.refl _ _) (f2 (updL_ne h (by decide))), fun h => f3 (updL_ne h (by decide)), fun h => f4 (updL_ne h (by decide)), fun h => AgM.monoC (ExR.good D) (Below.refl _ _) (f5 (updL_ne h (by decide))), fun _ => rfl, fun h => f8 (updL_ne h (by decide))⟩⟩
                case s7 =>
                  intro l a' w' hk hpre hJ K hK
                  obtain ⟨x0, x1, x2, x3, x4, x5, x6, x8, ha, hall, hfin, hfs⟩ := hJ
                  have h12 : l 9 = false := upd_last hall hk (by decide)
                  clear hall hfin
                  obtain ⟨hA7, hB, hd, hp, f0, f1, f2, f3, f4, f5, f6, f8⟩ := hfs h12
                  clear hfs
                  have p2 : l 2 = true := hpre 2 (by kernel_rfl)
                  have p5 : l 5 = true := hpre 5 (by kernel_rfl)
                  have p6 : l 6 = true := hpre 6 (by kernel_rfl)
                  have hBw := hB hk
                  obtain ⟨us, G2, vs, G3, rfl, rfl, hm, hm3, hdis⟩ := hd p2 p5 hk
                  obtain rfl := f6 p6

                  refine step_store rfl 52 (.tmp 50) (.tmp 46) rfl (cs := us) (v := .agg (List.toArray us)) rfl Hix.out (by rw [ha]; kernel_rfl) (g := wr.heap.size) (off := 2) (by rw [ha]; kernel_rfl) ((ExR.good D).len hm.1) (ExR.one hm.1) (blk_below Hb6.out hBw hpV) (by simp) ?_
                  intro w3 hP
                  subst ha
                  exact hK.out _ _ ⟨x0, x1, .agg (List.toArray us), x3, x4, .agg (List.toArray vs), .pointer (some ⟨wr.heap.size, 2, none⟩), x8, by kernel_rfl, fun h => absurd (updL_ne h (by decide)) (by rw [h12]; decide), fun h => absurd (updL_ne h (by decide)) (by rw [h12]; decide), fun _ => ⟨fun _ => deep_all hpre (by kernel_rfl) _, fun h2 => absurd h2 (by rw [updL_self]; decide), fun _ _ h2 => absurd h2 (by rw [updL_self]; decide), fun _ => ⟨w', us, G2, vs, G3, rfl, rfl, hm, hm3, hdis, hBw, hP⟩, fun h => f0 (updL_ne h (by decide)), fun h => f1 (updL_ne h (by decide)), fun h => fun h2 => absurd h2 (by rw [updL_self]; decide), fun h => f3 (updL_ne h (by decide)), fun h => f4 (updL_ne h (by decide)), fun h => fun h2 => absurd h2 (by rw [updL_self]; decide), fun h => f6 (updL_ne h (by decide)), fun h => f8 (updL_ne h (by decide))⟩⟩
                case s8 =>
                  intro l a' w' hk hpre hJ K hK
                  obtain ⟨x0, x1, x2, x3, x4, x5, x6, x8, ha, hall, hfin, hfs⟩ := hJ
                  have h12 : l 9 = false := upd_last hall hk (by decide)
                  clear hall hfin
                  obtain ⟨hA7, hB, hd, hp, f0, f1, f2, f3, f4, f5, f6, f8⟩ := hfs h12
                  clear hfs
                  subst ha
                  go_simp
                  exact hK.out _ _ ⟨x0, x1, x2, x3, x4, x5, x6, .pointer (some ⟨wr.heap.size, 9, none⟩), by kernel_rfl, fun h => absurd (updL_ne h (by decide)) (by rw [h12]; decide), fun h => absurd (updL_ne h (by decide)) (by rw [h12]; decide), fun _ => ⟨updL_all hA7 (by decide), fun h => hB (updL_f h), fun h1 h2 h3 => (hd (updL_ne h1 (by decide)) (updL_ne h2 (by decide)) (updL_f h3)).mono (ExR.good D) (Below.refl _ _), fun h => hp (updL_ne h (by decide)), fun h => f0 (updL_ne h (by decide)), fun h => f1 (updL_ne h (by decide)), fun h => AgM.monoC (ExR.good D) (Below.refl _ _) (f2 (updL_ne h (by decide))), fun h => f3 (updL_ne h (by decide)), fun h => f4 (updL_ne h (by decide)), fun h => AgM.monoC (ExR.good D) (Below.refl _ _) (f5 (updL_ne h (by decide))), fun h => f6 (updL_ne h (by decide)), fun _ => rfl⟩⟩
                case s9 =>
                  intro l a' w' hk hpre hJ K hK
                  obtain ⟨x0, x1, x2, x3, x4, x5, x6, x8, ha, hall, hfin, hfs⟩ := hJ
                  have h12 : l 9 = false := hk
                  clear hall hfin
                  obtain ⟨hA7, hB, hd, hp, f0, f1, f2, f3, f4, f5, f6, f8⟩ := hfs h12
                  clear hfs
                  have p7 : l 7 = true := hpre 7 (by kernel_rfl)
                  have p8 : l 8 = true := hpre 8 (by kernel_rfl)
                  obtain ⟨W2, us, G2, vs, G3, rfl, rfl, hm, hm3, hdis, hB2, hP⟩ := hp p7
                  obtain rfl := f8 p8
                  obtain ⟨old, ho1, ho2, _, _⟩ := hP.blk
                  refine step_store rfl 52 (.tmp 51) (.tmp 49) rfl (cs := vs) (v := .agg (List.toArray vs)) rfl Hix.out (by rw [ha]; kernel_rfl) (g := wr.heap.size) (off := 9) (by rw [ha]; kernel_rfl) ((ExR.good D).len hm3.1) (ExR.one hm3.1) ho1 (by rw [ho2]; simp) ?_
                  intro w4 hP4
                  have hfin4 := con_put (blk_below Hb6.out hB2 hpV) hP hP4 ((ExR.good D).len hm.1) ((ExR.good D).len hm3.1) ho1
                  have hB4 := (hB2.mono (Nat.le_of_lt hpV)).trans ((hP.below (Nat.le_refl _)).trans (hP4.below (Nat.le_refl _)))
                  have hm5 := hm.put2 (ExR.good D) hP hP4 hpV
                  have hm6 := hm3.put2 (ExR.good D) hP hP4 hpV
                  subst ha
                  exact hK.out _ _ ⟨x0, x1, .agg (List.toArray us), x3, x4, .agg (List.toArray vs), x6, .pointer (some ⟨wr.heap.size, 9, none⟩), by kernel_rfl, fun _ => deep_all hpre (by kernel_rfl) _, fun _ => ⟨us, G2, vs, G3, hm5, hm6, hdis, hB4, hfin4⟩, fun h => absurd h (by simp [updL])⟩
              case hend =>
                intro l a' w' hl hJ
                obtain ⟨x0, x1, x2, x3, x4, x5, x6, x8, ha, _, hfin, _⟩ := hJ
                simp [go_sem] at ha
                subst ha
                replace hfin := hfin (hl 9 (by decide))
                clear hl
                obtain ⟨us, G2, vs, G3, hm5, hm6, hdis, hB4, hfin4⟩ := hfin
                obtain ⟨W7, hW7⟩ : ∃ W, W = w' := ⟨_, rfl⟩
                subst hW7
                obtain ⟨u0, u1, u2, u3, u4, u5, u6, rfl⟩ := list7 ((ExR.good D).len hm5.1)
                obtain ⟨v0, v1, v2, v3, v4, v5, v6, rfl⟩ := list7 ((ExR.good D).len hm6.1)
                have Hbr : Hid (Below wr.heap.size wr W7) := hide (HBV.out.trans hB4)
                have HRX : Hid (ConR D W7 X [.string X.symbol, .string X.name, u0, u1, u2, u3, u4, u5, u6, v0, v1, v2, v3, v4, v5, v6] (G2 ++ G3)) := hide (ConR.of Hok.out hm5.1 hm6.1)
                have HFX : Hid (Fresh wr.heap.size W7 (G2 ++ G3)) := hide ((hm5.2.glue hm6.2 hdis).mono (Nat.le_of_lt hpV))
                have H1X := hide (ConR.one HRX.out)
                have HcW : Hid (CellsAt W7 wr.heap.size 0 [.string X.symbol, .string X.name, u0, u1, u2, u3, u4, u5, u6, v0, v1, v2, v3, v4, v5, v6]) := hide (fun i u hu => by
                  rw [cell_of_row _ _ _ _ _ _ hfin4, Nat.zero_add]
                  simpa using hu)
                have hbxW := blk_below Hbx.out Hbr.out (by omega)
                have q5 := cell_at (i := 5) hbxW (by simp)
                have HbxW := hide hbxW
                have HnX : Hid (([.string X.symbol, .string X.name, u0, u1, u2, u3, u4, u5, u6, v0, v1, v2, v3, v4, v5, v6] : List Value).length = 16) := hide rfl
                have hL1 : (x.cons.take j).length + 1 ≤ 1099511627776 := by rw [List.length_take]; omega
                have hL2 : ((x.cons.take j).length + 1) * 208 ≤ 140737488355328 := by rw [List.length_take]; omega
                have HL1 := hide hL1
                have HL2 := hide hL2
                clear hm5 hm6 hdis hB4 hfin4 hbxW hL1 hL2
                go_wp2_with (first
                  | refine wpList_load_at 109 (.tmp 7) rfl Try.underlying109 rfl Hic.out rfl rfl HnX.out HcW.out ?_
                  | (at_builtin; refine app_ownS rfl (.tmp 53) (.tmp 55) 29 109 rfl Try.underlying29 infoConT rfl (by decide) (ConR.good D) wr W7 W1.heap.size _ (x.cons.take j) F' Hown.out rfl Hbr.out X [.string X.symbol, .string X.name, u0, u1, u2, u3, u4, u5, u6, v0, v1, v2, v3, v4, v5, v6] (G2 ++ G3) HRX.out HFX.out H1X.out rfl HL1.out HL2.out hwcr0 ?_; intro w8v w8 hown8 hbl8; refine hold ?_))
                obtain ⟨A8, cap8, hv8, _, _⟩ := hown8.form
                rw [show (x.cons.take j ++ [X]).length = j + 1 from by simp; omega] at hv8
                subst hv8
                have hbx8 := blk_below Hbx.out hbl8 hb1W
                have q8 := cell_at (i := 5) hbx8 (by simp)
                have y8 := frozen_of_row w8 _ 5 _ _ hbx8
                have hb9 := heap_setCell_same w8 b 5 _ _ (.slice A8 (j + 1) cap8) hbx8
                have Hb9 : Hid ((w8.setCell ⟨b, 5, none⟩ (.slice A8 (j + 1) cap8)).heap[b]? = some (.cells #[.string x.name, .string x.left, .slice A x.right.length cap, .bool x.lit, v, .slice A8 (j + 1) cap8] 31 (0, 0))) := hide hb9
                have Hg9 : Hid (W1.grownBy (w8.setCell ⟨b, 5, none⟩ (.slice A8 (j + 1) cap8)) (some b)) := hide (mk_cell (mk_base Hgr.out hbl8 (Nat.le_refl _)))
                have Ho9 := hide (OwnS.same (ConR.good D) hown8 (fun k h1 h2 => heap_setCell_other w8 ⟨b, 5, none⟩ k (.slice A8 (j + 1) cap8) (by show k ≠ b; omega)) (by simp))
                clear hown8 hbl8 hbx8 hb9
                refine Hold.go ?_
                go_wp2_with fail
                go_roundw
                case rel => exact ⟨j + 1, _, _, by omega, by go_num, Hg9, Hb9, hide (by rw [take_snoc HX.out]; exact Ho9.out)⟩
                case measure => simp [intOf]; omega
            · have hjl : j = x.cons.length := by omega
              subst hjl
              rw [List.take_length] at Hown
              obtain ⟨Av, capv, rfl, _, _⟩ := Hown1.out.form
              obtain ⟨Au, capu, rfl, _, _⟩ := Hown.out.form
              have hHc6 : CellsAt wr b 0 [.string x.name, .string x.left, .slice A x.right.length cap, .bool x.lit, .slice Av x.eqs.length capv, .slice Au x.cons.length capu] := fun i u hu => by
                rw [cell_of_row _ _ _ _ _ _ Hbx.out, Nat.zero_add]
                simpa using hu
              have Hc6 := hide hHc6
              have HZ := hide (blk_below HR0.out hwr2 (by omega))
              have Hn6 : Hid (([.string x.name, .string x.left, .slice A x.right.length cap, .bool x.lit, .slice Av x.eqs.length capv, .slice Au x.cons.length capu] : List Value).length = 6) := hide rfl
              have H16 : Hid (∀ v ∈ ([.string x.name, .string x.left, .slice A x.right.length cap, .bool x.lit, .slice Av x.eqs.length capv, .slice Au x.cons.length capu] : List Value), v.oneCell' = true) := hide (by simp [Value.oneCell'])
              clear hHc6
              go_wp2_with (first
                | refine wpList_load_at 31 (.tmp 3) rfl Try.underlying31 rfl Hir.out rfl rfl Hn6.out Hc6.out ?_
                | (refine wpList_store_at 31 (.tmp 2) (.tmp 59) (cs := [.string x.name, .string x.left, .slice A x.right.length cap, .bool x.lit, .slice Av x.eqs.length capv, .slice Au x.cons.length capu]) rfl Hir.out rfl rfl rfl Hn6.out H16.out HZ.out (by decide) ?_; intro WF hQ; have HQF := hide hQ; clear hQ))
              obtain ⟨G4, hG4, hf4⟩ := Hown1.out.slr (EqnR.good D)
              obtain ⟨G5, hG5, hf5⟩ := Hown.out.slr (ConR.good D)
              have hlG : ∀ k ∈ G, k < wc.heap.size := Hfr.out.lt
              have hlG4 : ∀ k ∈ G4, k < W1.heap.size := hf4.lt
              have hw1 : wc.heap.size ≤ W1.heap.size := hwcr
              have sG : ∀ k ∈ G, WF.heap[k]? = wc.heap[k]? := fun k hk => by
                have h1 := hlG k hk
                have h2 := Hfr.out.from_ k hk
                have h3 : k ≠ b := fun e => HbG.out (e ▸ hk)
                rw [HQF.out.far k (by omega), Hgr.out.block k (by omega) (by intro e; injection e; omega), Hg1.out.block k h1 (by intro e; injection e; omega)]
              have s4 : ∀ k ∈ G4, WF.heap[k]? = W1.heap[k]? := fun k hk => by
                have h1 := hlG4 k hk
                have h2 := hf4.from_ k hk
                rw [HQF.out.far k (by omega), Hgr.out.block k (by omega) (by intro e; injection e; omega)]
              have s5 : ∀ k ∈ G5, WF.heap[k]? = wr.heap[k]? := fun k hk => by
                have h2 := hf5.from_ k hk
                rw [HQF.out.far k (by omega)]
              have hzF : WF.heap.size = wr.heap.size := HQF.out.size
              have x0 := HQF.out.cellsAt 0 _ rfl
              have x1 := HQF.out.cellsAt 1 _ rfl
              have x2 := HQF.out.cellsAt 2 _ rfl
              have x3 := HQF.out.cellsAt 3 _ rfl
              have x4 := HQF.out.cellsAt 4 _ rfl
              have x5 := HQF.out.cellsAt 5 _ rfl
              simp only [Nat.zero_add] at x0 x1 x2 x3 x4 x5
              exact bodyPost_ret (v := .agg #[.string x.name, .string x.left, .slice A x.right.length cap, .bool x.lit, .slice Av x.eqs.length capv, .slice Au x.cons.length capu]) (by simp [results, Try.results41, go_sem, x0, x1, x2, x3, x4, x5]) rfl
                ⟨[.string x.name, .string x.left, .slice A x.right.length cap, .bool x.lit, .slice Av x.eqs.length capv, .slice Au x.cons.length capu], G ++ (G4 ++ G5), rfl, ⟨_, G, _, G4, _, G5, rfl, Hk.out, rfl, rfl, ⟨rfl, Hsl.out.frame (StrR.good D) sG (by omega)⟩, rfl, ⟨rfl, hG4.frame (EqnR.good D) s4 (by omega)⟩, ⟨rfl, hG5.frame (ConR.good D) s5 (by omega)⟩, rfl⟩,
                  ((Hfr.out.keep sG).mono (by omega)).append ((hf4.keep s4).append (hf5.keep s5) hlG4 hw1) (fun k hk => hlG k hk) (by omega), hwr.trans (HQF.out.below (by omega))⟩

end Go.Proofs.Ytaihdnlpdibkoaa
