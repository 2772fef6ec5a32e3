/- Symbols drawn. Conditions: the bytes drawn from can be read. -/
import Derived.Test.YtilndebjnibgjaaDoorSymPs
import Derived.Test.YtilndebjnibgjaaDoorDrawN
import Derived.Test.YtilndebjnibgjaaDoorTurned
import Derived.Test.YtilndebjnibgjaaDoorInv
import Derived.Test.YtilndebjnibgjaaDoorRegAl2
import Derived.Deep.RegionHeld3
import Derived.Deep.RegionLaw
import Derived.Deep.CutRange
import Derived.Sort.AtCall
namespace Go.Proofs.YtilndebjnibgjaaDoor
set_option maxRecDepth 100000
open Go.RowKit Go.WideShapes Go.Lib
set_option linter.unusedVariables false

theorem OwnS.grownT {α : Type} {n B : Nat} {R : CR α} {e : TypeId} {w w' : World} {xs : List α} {v : Value} {F : List Nat} (hR : Good n R) (h : OwnS n R B e w xs v F) {b : Nat} (hb : b < B) (hg : w.grownBy w' (some b)) : OwnS n R B e w' xs v F := by
  have hk : ∀ k, B ≤ k → k < w.heap.size → w'.heap[k]? = w.heap[k]? := fun k h1 h2 => hg.block k h2 (fun e => by injection e; omega)
  have hF : ∀ k ∈ F, w'.heap[k]? = w.heap[k]? := fun k hk' => hk k (h.fresh.from_ k hk') (h.fresh.lt k hk')
  have hblk := h.blk
  obtain ⟨⟨cl, ⟨h1, h2⟩, hel⟩, h3, h4⟩ := h
  refine ⟨⟨cl, ⟨h1, ?_⟩, hel.frame hR hg.size hF⟩, h3.keep hF, h4⟩
  rcases h2 with h2 | ⟨g, cap, cur, h5, h6, h7, h8⟩
  · exact .inl h2
  · have hg2 := hblk g (by rw [h5]; rfl)
    exact .inr ⟨g, cap, cur, h5, h6, (hk g hg2.1 hg2.2).trans h7, h8⟩
theorem size_setC (w : World) (p : Addr) (v : Value) : (w.setCell p v).heap.size = w.heap.size := by simp
theorem OwnS.keep1 {α : Type} {n B : Nat} {R : CR α} {e : TypeId} {w w' : World} {xs : List α} {v : Value} (hR : Good n R) (h : OwnS n R B e w xs v []) (hk : ∀ k, v.ownBlock = some k → w'.heap[k]? = w.heap[k]?) (hz : w.heap.size ≤ w'.heap.size) : OwnS n R B e w' xs v [] := by
  obtain ⟨⟨cl, ⟨h1, h2⟩, hel⟩, h3, h4⟩ := h
  refine ⟨⟨cl, ⟨h1, ?_⟩, hel.frame hR hz (fun k hk => by cases hk)⟩, h3.keep (fun k hk => by cases hk), h4⟩
  rcases h2 with h2 | ⟨g, cap, cur, rfl, hg, hb, hn, hm, hc, ht⟩
  · exact .inl h2
  · exact .inr ⟨g, cap, cur, rfl, hg, (hk g rfl).trans hb, hn, hm, hc, ht⟩
theorem OwnS.setFar {α : Type} {n B : Nat} {R : CR α} {e : TypeId} {w0 w : World} {xs : List α} {v u : Value} {g k : Nat} (hR : Good n R) (h0 : OwnS n R B e w0 xs v []) (h : OwnS n R B e w xs v []) (hg : w0.heap.size ≤ g) : OwnS n R B e (w.setCell ⟨g, k, none⟩ u) xs v [] :=
  OwnS.keep1 hR h (fun j hj => heap_setCell_other _ _ _ _ (by simp; have := (h0.blk j hj).2; omega)) (by simp)
theorem atr_ok {s : ByteArray} {t m : Int} {c : Bool} (hs : s.size ≤ 32) (h0 : 1 ≤ t) (h1 : t ≤ 4) (h2 : 1 ≤ m) (h3 : m ≤ 3) : (⟨s, t, m, c⟩ : Atr).ok := by
  have e1 : IntKind.i64.min = -9223372036854775808 := rfl
  have e2 : IntKind.i64.max = 9223372036854775807 := rfl
  exact ⟨by show s.size ≤ maxLen; unfold maxLen; omega, by show (Lit.int .i64 t).wf = true; simp [Lit.wf, e1, e2]; omega, by show (Lit.int .i64 m).wf = true; simp [Lit.wf, e1, e2]; omega⟩
/-- A symbol drawn: its attributes' names are short. -/
def shortY (x : Sym) : Prop := x.name.size ≤ 32 ∧ x.attrs.length ≤ 5 ∧ 1 ≤ x.attrs.length ∧ ∀ a ∈ x.attrs, a.ok ∧ a.name.size ≤ 32
def DrawnY (b : Nat) (w : World) (e : Ending) (w' : World) : Prop := ∃ x v, e = .returned (.agg #[.string x.name, v]) ∧ (∃ B, w.heap.size ≤ B ∧ OwnS 4 (AtrR 0) B 33 w' x.attrs v []) ∧ shortY x ∧ Cur w' b ∧ w.grownBy w' (some b)
theorem s_pickAt {b n g : Nat} {w : World} {T : TypeId} (hc : Cur w b) (hb : b < n) (zs : List Int) (hg : New n w g (.cells (zs.map (Value.int .i64)).toArray T (0, 0))) (h0 : 1 ≤ zs.length) (h1 : zs.length ≤ 256) (lo hi : Int) (hz : zs.all (fun z => decide (lo ≤ z ∧ z ≤ hi)) = true) :
    Calls Tryd.prog 45 #[.pointer (some ⟨b, 0, none⟩), .slice (some ⟨g, 0, none⟩) zs.length zs.length] w (Drawn lo hi b w) := by
  have hr := Rd.blk hg.2
  rw [List.length_map] at hr
  exact s_l1PickInt hc w.heap.size _ zs.length zs.length zs hr h0 h1 (fun bl off e => by injection e with e; injection e with e1 _ _; have := hg.1; omega) lo hi (fun z hzm => by simpa using List.all_eq_true.1 hz z hzm)
theorem letter_at {n g j : Nat} {w : World} {T : TypeId} (hg : New n w g (.cells #[.string ⟨#[97]⟩, .string ⟨#[98]⟩, .string ⟨#[99]⟩, .string ⟨#[100]⟩] T (0, 0))) (hj : j < 4) : ∃ s : ByteArray, w.cell? ⟨g, j, none⟩ = some (.string s) ∧ s.size ≤ 32 := by
  rw [cell_of_row _ _ _ _ _ _ hg.2]
  have : j = 0 ∨ j = 1 ∨ j = 2 ∨ j = 3 := by omega
  rcases this with rfl | rfl | rfl | rfl
  · exact ⟨⟨#[97]⟩, rfl, by decide⟩
  · exact ⟨⟨#[98]⟩, rfl, by decide⟩
  · exact ⟨⟨#[99]⟩, rfl, by decide⟩
  · exact ⟨⟨#[100]⟩, rfl, by decide⟩
set_option maxRecDepth 100000 in
set_option maxHeartbeats 4000000 in
theorem s_l8Draw {b : Nat} {w : World} (hc : Cur w b) (nm : ByteArray) (hnm : nm.size ≤ 32) : Calls Tryd.prog 29 #[.pointer (some ⟨b, 0, none⟩), .string nm, .bool false, .bool false] w (DrawnY b w) := by
  have hlt := hc.lt
  have Hi : Hid ((Tryd.prog.info? 33).map (·.size) = some 4) := hide (by kernel_rfl)
  have His : Hid ((Tryd.prog.info? 26).map (·.size) = some 2) := hide (by kernel_rfl)
  go_enter Tryd.func29, Tryd.ntmps29
  go_wp2_with fail
  have hb0 : Below w.heap.size w ((w.alloc (Obj.cells #[.string ⟨#[]⟩, .slice none 0 0] 26)).alloc (Obj.cells #[.string nm, .slice none 0 0] 26)) := ((Below.refl _ _).alloc (Nat.le_refl _) _).alloc (by simp) _
  have zb0 : ((w.alloc (Obj.cells #[.string ⟨#[]⟩, .slice none 0 0] 26)).alloc (Obj.cells #[.string nm, .slice none 0 0] 26)).heap[w.heap.size + 1]? = some (.cells #[.string nm, .slice none 0 0] 26 (0, 0)) := by
    have h := heap_alloc_new (w.alloc (Obj.cells #[.string ⟨#[]⟩, .slice none 0 0] 26)) (Obj.cells #[.string nm, .slice none 0 0] 26)
    rwa [World.size_alloc] at h
  have za0 : ((w.alloc (Obj.cells #[.string ⟨#[]⟩, .slice none 0 0] 26)).alloc (Obj.cells #[.string nm, .slice none 0 0] 26)).heap[w.heap.size]? = some (.cells #[.string ⟨#[]⟩, .slice none 0 0] 26 (0, 0)) := by
    rw [Below.heap_alloc _ _ _ (by simp)]
    exact heap_alloc_new w _
  have hc0 := hc.below hb0
  have hg0 : w.grownBy ((w.alloc (Obj.cells #[.string ⟨#[]⟩, .slice none 0 0] 26)).alloc (Obj.cells #[.string nm, .slice none 0 0] 26)) (some b) := ⟨hb0.os, hb0.tape, hb0.output, hb0.size, fun k hk _ => hb0.block k hk⟩
  generalize (w.alloc (Obj.cells #[.string ⟨#[]⟩, .slice none 0 0] 26)).alloc (Obj.cells #[.string nm, .slice none 0 0] 26) = W0 at hb0 zb0 za0 hc0 hg0 ⊢
  refine (s_l1Below hc0 4 (by omega) (by omega)).mono ?_
  rintro e w1 ⟨m, rfl, hm0, hm1, hc1, hg1⟩
  obtain ⟨M, rfl⟩ := Int.eq_ofNat_of_zero_le hm0
  have zb1 := (hg1.block _ (blk_lt zb0) (by intro e; injection e; omega)).trans zb0
  have za1 := (hg1.block _ (blk_lt za0) (by intro e; injection e; omega)).trans za0
  have hgw := grown_trans2 hg0 hg1
  have hM : (M : Int) ≤ 3 := by omega
  clear hb0 zb0 za0 hc0 hg0 hg1 hm0 hm1
  obtain ⟨N, hNM⟩ : ∃ N : Nat, N = M + 1 := ⟨_, rfl⟩
  have HzA := hide za1
  have HzB := hide zb1
  have Hc1 := hide hc1
  have Hgw := hide hgw
  have Hnm := hide hnm
  clear za1 zb1 hc1 hgw hnm
  go_wp2_with fail
  go_loopw [11, 12] (fun i k12 wr => ∃ (j : Nat) (xs : List Atr) (v : Value), (j : Int) ≤ 1 + (M : Int) ∧ i = .int .i64 j ∧ Hid (xs.length = j) ∧ Hid (∀ a ∈ xs, a.ok ∧ a.name.size ≤ 32) ∧ Hid (wr.heap[w.heap.size]? = some (.cells #[.string ⟨#[]⟩, .slice none 0 0] 26 (0, 0))) ∧ Hid (wr.heap[w.heap.size + 1]? = some (.cells #[.string nm, v] 26 (0, 0))) ∧ Hid (OwnS 4 (AtrR 0) (w.heap.size + 2) 33 wr xs v []) ∧ Hid (Cur wr b) ∧ Hid (w.grownBy wr (some b))) (fun i _ _ => M + 1 - (intOf i).toNat)
  case atStart => exact ⟨0, [], _, by omega, rfl, hide rfl, hide (by simp), HzA, HzB, hide (OwnS.nil _), Hc1, Hgw⟩
  case round =>
    obtain ⟨j, xs, v, hj, rfl, Hxl, Hx, HzA, HzB, Ho, Hc, Hg⟩ := hrel
    by_cases hlt2 : (j : Int) < 1 + (M : Int)
    · go_wp2_with fail
      have hj4 : j < 4 := by omega
      have hj0 : (0 : Int) ≤ (j : Int) := by omega
      have hj4i : (j : Int) < 4 := by omega
      have hlw : b < wr.heap.size := Nat.lt_of_lt_of_le hlt Hg.out.size
      refine region_invA (fun a0 l a' w' => ∃ x0 x1 x2 x3 x4 x5 x6 x7 x8 x9 x10 x11 : Value, a' = ((((((((((((a0.put (some 23) x0).put (some 24) x1).put (some 25) x2).put (some 26) x3).put (some 27) x4).put (some 28) x5).put (some 29) x6).put (some 30) x7).put (some 31) x8).put (some 32) x9).put (some 33) x10).put (some 12) x11) ∧ (l 12 = true → ∀ i, i < 12 → l i = true) ∧ (l 12 = true → Cur w' b ∧ wr.grownBy w' (some b) ∧ ∃ (g : Nat) (s : ByteArray) (t m : Int), x11 = .pointer (some ⟨g, 0, none⟩) ∧ New wr.heap.size w' g (.cells #[.string s, .int .i64 t, .int .i64 m, .bool false] 33 (0, 0)) ∧ s.size ≤ 32 ∧ 1 ≤ t ∧ t ≤ 4 ∧ 1 ≤ m ∧ m ≤ 3) ∧ (l 12 = false → Cur w' b ∧ wr.grownBy w' (some b) ∧ (l 0 = true → SlN wr.heap.size w' x0 #[.string ⟨#[97]⟩, .string ⟨#[98]⟩, .string ⟨#[99]⟩, .string ⟨#[100]⟩] 9 4) ∧ (l 1 = true → x1 = .int .i64 j) ∧ (l 2 = true → PtN wr.heap.size w' x2 #[.string ⟨#[97]⟩, .string ⟨#[98]⟩, .string ⟨#[99]⟩, .string ⟨#[100]⟩] 9 j) ∧ (l 3 = true → ∃ s : ByteArray, x3 = .string s ∧ s.size ≤ 32) ∧ (l 4 = true → x4 = .pointer (some ⟨b, 0, none⟩)) ∧ (l 5 = true → SlN wr.heap.size w' x5 #[.int .i64 1, .int .i64 1, .int .i64 2, .int .i64 2, .int .i64 3, .int .i64 4] 3 6) ∧ (l 6 = true → ∃ t : Int, x6 = .int .i64 t ∧ 1 ≤ t ∧ t ≤ 4) ∧ (l 7 = true → x7 = .pointer (some ⟨b, 0, none⟩)) ∧ (l 8 = true → SlN wr.heap.size w' x8 #[.int .i64 1, .int .i64 2, .int .i64 2, .int .i64 1, .int .i64 2, .int .i64 3] 3 6) ∧ (l 9 = true → ∃ t : Int, x9 = .int .i64 t ∧ 1 ≤ t ∧ t ≤ 3) ∧ (l 10 = true → ∃ (s : ByteArray) (t m : Int), x10 = .agg #[.string s, .int .i64 t, .int .i64 m, .bool false] ∧ s.size ≤ 32 ∧ 1 ≤ t ∧ t ≤ 4 ∧ 1 ≤ m ∧ m ≤ 3) ∧ (l 11 = true → PtN wr.heap.size w' x11 #[.string ⟨#[]⟩, .int .i64 0, .int .i64 0, .bool false] 33 0))) rfl (by kernel_rfl) ?h0 ?hstep ?hend
      case h0 => exact ⟨u23, u24, u25, u26, u27, u28, u29, u30, u31, u32, u33, u12, by kernel_rfl, fun h => absurd h (by decide), fun h => absurd h (by decide), fun _ => ⟨Hc.out.below (Below.refl _ _).drew, ⟨rfl, rfl, rfl, Nat.le_refl _, fun _ _ _ => rfl⟩, fun h => absurd h (by decide), fun h => absurd h (by decide), fun h => absurd h (by decide), fun h => absurd h (by decide), fun h => absurd h (by decide), fun h => absurd h (by decide), fun h => absurd h (by decide), fun h => absurd h (by decide), fun h => absurd h (by decide), fun h => absurd h (by decide), fun h => absurd h (by decide), fun h => absurd h (by decide)⟩⟩
      case hstep =>
        refine ⟨?s0, ?s1, ?s2, ?s3, ?s4, ?s5, ?s6, ?s7, ?s8, ?s9, ?s10, ?s11, ?s12, trivial⟩
        case s0 =>
          intro l a' w' hk hpre hJ K hK
          obtain ⟨x0, x1, x2, x3, x4, x5, x6, x7, x8, x9, x10, x11, ha, hall, hfin, hfs⟩ := hJ
          have h12 : l 12 = false := upd_last hall hk (by decide)
          clear hall hfin
          obtain ⟨hcu, hgr, f0, f1, f2, f3, f4, f5, f6, f7, f8, f9, f10, f11⟩ := hfs h12
          subst ha
          go_simp
          exact hK.out _ _ ⟨.slice (some ⟨w'.heap.size, 0, none⟩) 4 4, x1, x2, x3, x4, x5, x6, x7, x8, x9, x10, x11, by kernel_rfl, fun h => absurd (updL_ne h (by decide)) (by rw [h12]; decide), fun h => absurd (updL_ne h (by decide)) (by rw [h12]; decide), fun _ => ⟨hcu.below ((Below.refl _ _).alloc (Nat.le_refl _) _), grown_baseT hgr ((Below.refl _ _).alloc (Nat.le_refl _) _) hgr.size, fun _ => ⟨_, rfl, New.made hgr.size _ _⟩, fun h => f1 (updL_ne h (by decide)), fun h => PtN.mono (Stay.alloc _ _ _) (f2 (updL_ne h (by decide))), fun h => f3 (updL_ne h (by decide)), fun h => f4 (updL_ne h (by decide)), fun h => SlN.mono (Stay.alloc _ _ _) (f5 (updL_ne h (by decide))), fun h => f6 (updL_ne h (by decide)), fun h => f7 (updL_ne h (by decide)), fun h => SlN.mono (Stay.alloc _ _ _) (f8 (updL_ne h (by decide))), fun h => f9 (updL_ne h (by decide)), fun h => f10 (updL_ne h (by decide)), fun h => PtN.mono (Stay.alloc _ _ _) (f11 (updL_ne h (by decide)))⟩⟩
        case s1 =>
          intro l a' w' hk hpre hJ K hK
          obtain ⟨x0, x1, x2, x3, x4, x5, x6, x7, x8, x9, x10, x11, ha, hall, hfin, hfs⟩ := hJ
          have h12 : l 12 = false := upd_last hall hk (by decide)
          clear hall hfin
          obtain ⟨hcu, hgr, f0, f1, f2, f3, f4, f5, f6, f7, f8, f9, f10, f11⟩ := hfs h12
          subst ha
          go_simp
          exact hK.out _ _ ⟨x0, .int .i64 j, x2, x3, x4, x5, x6, x7, x8, x9, x10, x11, by kernel_rfl, fun h => absurd (updL_ne h (by decide)) (by rw [h12]; decide), fun h => absurd (updL_ne h (by decide)) (by rw [h12]; decide), fun _ => ⟨hcu, hgr, fun h => f0 (updL_ne h (by decide)), fun _ => rfl, fun h => f2 (updL_ne h (by decide)), fun h => f3 (updL_ne h (by decide)), fun h => f4 (updL_ne h (by decide)), fun h => f5 (updL_ne h (by decide)), fun h => f6 (updL_ne h (by decide)), fun h => f7 (updL_ne h (by decide)), fun h => f8 (updL_ne h (by decide)), fun h => f9 (updL_ne h (by decide)), fun h => f10 (updL_ne h (by decide)), fun h => f11 (updL_ne h (by decide))⟩⟩
        case s2 =>
          intro l a' w' hk hpre hJ K hK
          obtain ⟨x0, x1, x2, x3, x4, x5, x6, x7, x8, x9, x10, x11, ha, hall, hfin, hfs⟩ := hJ
          have h12 : l 12 = false := upd_last hall hk (by decide)
          clear hall hfin
          obtain ⟨hcu, hgr, f0, f1, f2, f3, f4, f5, f6, f7, f8, f9, f10, f11⟩ := hfs h12
          have p0 : l 0 = true := hpre 0 (by kernel_rfl)
          have p1 : l 1 = true := hpre 1 (by kernel_rfl)
          obtain ⟨g, rfl, hg⟩ := f0 p0
          obtain rfl := f1 p1
          subst ha
          go_simp
          exact hK.out _ _ ⟨.slice (some ⟨g, 0, none⟩) 4 4, .int .i64 j, .pointer (some ⟨g, j, none⟩), x3, x4, x5, x6, x7, x8, x9, x10, x11, by kernel_rfl, fun h => absurd (updL_ne h (by decide)) (by rw [h12]; decide), fun h => absurd (updL_ne h (by decide)) (by rw [h12]; decide), fun _ => ⟨hcu, hgr, fun h => f0 (updL_ne h (by decide)), fun h => f1 (updL_ne h (by decide)), fun _ => ⟨g, rfl, hg⟩, fun h => f3 (updL_ne h (by decide)), fun h => f4 (updL_ne h (by decide)), fun h => f5 (updL_ne h (by decide)), fun h => f6 (updL_ne h (by decide)), fun h => f7 (updL_ne h (by decide)), fun h => f8 (updL_ne h (by decide)), fun h => f9 (updL_ne h (by decide)), fun h => f10 (updL_ne h (by decide)), fun h => f11 (updL_ne h (by decide))⟩⟩
        case s3 =>
          intro l a' w' hk hpre hJ K hK
          obtain ⟨x0, x1, x2, x3, x4, x5, x6, x7, x8, x9, x10, x11, ha, hall, hfin, hfs⟩ := hJ
          have h12 : l 12 = false := upd_last hall hk (by decide)
          clear hall hfin
          obtain ⟨hcu, hgr, f0, f1, f2, f3, f4, f5, f6, f7, f8, f9, f10, f11⟩ := hfs h12
          have p2 : l 2 = true := hpre 2 (by kernel_rfl)
          obtain ⟨g, rfl, hg⟩ := f2 p2
          obtain ⟨s, hs, hsz⟩ := letter_at hg hj4
          subst ha
          go_simp
          exact hK.out _ _ ⟨x0, x1, .pointer (some ⟨g, j, none⟩), .string s, x4, x5, x6, x7, x8, x9, x10, x11, by kernel_rfl, fun h => absurd (updL_ne h (by decide)) (by rw [h12]; decide), fun h => absurd (updL_ne h (by decide)) (by rw [h12]; decide), fun _ => ⟨hcu, hgr, fun h => f0 (updL_ne h (by decide)), fun h => f1 (updL_ne h (by decide)), fun h => f2 (updL_ne h (by decide)), fun _ => ⟨s, rfl, hsz⟩, fun h => f4 (updL_ne h (by decide)), fun h => f5 (updL_ne h (by decide)), fun h => f6 (updL_ne h (by decide)), fun h => f7 (updL_ne h (by decide)), fun h => f8 (updL_ne h (by decide)), fun h => f9 (updL_ne h (by decide)), fun h => f10 (updL_ne h (by decide)), fun h => f11 (updL_ne h (by decide))⟩⟩
        case s4 =>
          intro l a' w' hk hpre hJ K hK
          obtain ⟨x0, x1, x2, x3, x4, x5, x6, x7, x8, x9, x10, x11, ha, hall, hfin, hfs⟩ := hJ
          have h12 : l 12 = false := upd_last hall hk (by decide)
          clear hall hfin
          obtain ⟨hcu, hgr, f0, f1, f2, f3, f4, f5, f6, f7, f8, f9, f10, f11⟩ := hfs h12
          subst ha
          go_simp
          exact hK.out _ _ ⟨x0, x1, x2, x3, .pointer (some ⟨b, 0, none⟩), x5, x6, x7, x8, x9, x10, x11, by kernel_rfl, fun h => absurd (updL_ne h (by decide)) (by rw [h12]; decide), fun h => absurd (updL_ne h (by decide)) (by rw [h12]; decide), fun _ => ⟨hcu, hgr, fun h => f0 (updL_ne h (by decide)), fun h => f1 (updL_ne h (by decide)), fun h => f2 (updL_ne h (by decide)), fun h => f3 (updL_ne h (by decide)), fun _ => rfl, fun h => f5 (updL_ne h (by decide)), fun h => f6 (updL_ne h (by decide)), fun h => f7 (updL_ne h (by decide)), fun h => f8 (updL_ne h (by decide)), fun h => f9 (updL_ne h (by decide)), fun h => f10 (updL_ne h (by decide)), fun h => f11 (updL_ne h (by decide))⟩⟩
        case s5 =>
          intro l a' w' hk hpre hJ K hK
          obtain ⟨x0, x1, x2, x3, x4, x5, x6, x7, x8, x9, x10, x11, ha, hall, hfin, hfs⟩ := hJ
          have h12 : l 12 = false := upd_last hall hk (by decide)
          clear hall hfin
          obtain ⟨hcu, hgr, f0, f1, f2, f3, f4, f5, f6, f7, f8, f9, f10, f11⟩ := hfs h12
          subst ha
          go_simp
          exact hK.out _ _ ⟨x0, x1, x2, x3, x4, .slice (some ⟨w'.heap.size, 0, none⟩) 6 6, x6, x7, x8, x9, x10, x11, by kernel_rfl, fun h => absurd (updL_ne h (by decide)) (by rw [h12]; decide), fun h => absurd (updL_ne h (by decide)) (by rw [h12]; decide), fun _ => ⟨hcu.below ((Below.refl _ _).alloc (Nat.le_refl _) _), grown_baseT hgr ((Below.refl _ _).alloc (Nat.le_refl _) _) hgr.size, fun h => SlN.mono (Stay.alloc _ _ _) (f0 (updL_ne h (by decide))), fun h => f1 (updL_ne h (by decide)), fun h => PtN.mono (Stay.alloc _ _ _) (f2 (updL_ne h (by decide))), fun h => f3 (updL_ne h (by decide)), fun h => f4 (updL_ne h (by decide)), fun _ => ⟨_, rfl, New.made hgr.size _ _⟩, fun h => f6 (updL_ne h (by decide)), fun h => f7 (updL_ne h (by decide)), fun h => SlN.mono (Stay.alloc _ _ _) (f8 (updL_ne h (by decide))), fun h => f9 (updL_ne h (by decide)), fun h => f10 (updL_ne h (by decide)), fun h => PtN.mono (Stay.alloc _ _ _) (f11 (updL_ne h (by decide)))⟩⟩
        case s6 =>
          intro l a' w' hk hpre hJ K hK
          obtain ⟨x0, x1, x2, x3, x4, x5, x6, x7, x8, x9, x10, x11, ha, hall, hfin, hfs⟩ := hJ
          have h12 : l 12 = false := upd_last hall hk (by decide)
          clear hall hfin
          obtain ⟨hcu, hgr, f0, f1, f2, f3, f4, f5, f6, f7, f8, f9, f10, f11⟩ := hfs h12
          have p4 : l 4 = true := hpre 4 (by kernel_rfl)
          have p5 : l 5 = true := hpre 5 (by kernel_rfl)
          obtain rfl := f4 p4
          obtain ⟨g, rfl, hg⟩ := f5 p5
          subst ha
          go_simp
          go_at_call 45
          refine Calls.mono (s_pickAt hcu hlw [1, 1, 2, 2, 3, 4] hg (by decide) (by decide) 1 4 (by decide)) ?_
          rintro en w2 ⟨t, rfl, ht0, ht1, hc2, hg2⟩
          exact hK.out _ _ ⟨x0, x1, x2, x3, .pointer (some ⟨b, 0, none⟩), .slice (some ⟨g, 0, none⟩) 6 6, .int .i64 t, x7, x8, x9, x10, x11, by kernel_rfl, fun h => absurd (updL_ne h (by decide)) (by rw [h12]; decide), fun h => absurd (updL_ne h (by decide)) (by rw [h12]; decide), fun _ => ⟨hc2, grown_trans2 hgr hg2, fun h => SlN.mono (Stay.grown hlw hg2) (f0 (updL_ne h (by decide))), fun h => f1 (updL_ne h (by decide)), fun h => PtN.mono (Stay.grown hlw hg2) (f2 (updL_ne h (by decide))), fun h => f3 (updL_ne h (by decide)), fun h => f4 (updL_ne h (by decide)), fun h => SlN.mono (Stay.grown hlw hg2) (f5 (updL_ne h (by decide))), fun _ => ⟨t, rfl, ht0, ht1⟩, fun h => f7 (updL_ne h (by decide)), fun h => SlN.mono (Stay.grown hlw hg2) (f8 (updL_ne h (by decide))), fun h => f9 (updL_ne h (by decide)), fun h => f10 (updL_ne h (by decide)), fun h => PtN.mono (Stay.grown hlw hg2) (f11 (updL_ne h (by decide)))⟩⟩
        case s7 =>
          intro l a' w' hk hpre hJ K hK
          obtain ⟨x0, x1, x2, x3, x4, x5, x6, x7, x8, x9, x10, x11, ha, hall, hfin, hfs⟩ := hJ
          have h12 : l 12 = false := upd_last hall hk (by decide)
          clear hall hfin
          obtain ⟨hcu, hgr, f0, f1, f2, f3, f4, f5, f6, f7, f8, f9, f10, f11⟩ := hfs h12
          subst ha
          go_simp
          exact hK.out _ _ ⟨x0, x1, x2, x3, x4, x5, x6, .pointer (some ⟨b, 0, none⟩), x8, x9, x10, x11, by kernel_rfl, fun h => absurd (updL_ne h (by decide)) (by rw [h12]; decide), fun h => absurd (updL_ne h (by decide)) (by rw [h12]; decide), fun _ => ⟨hcu, hgr, fun h => f0 (updL_ne h (by decide)), fun h => f1 (updL_ne h (by decide)), fun h => f2 (updL_ne h (by decide)), fun h => f3 (updL_ne h (by decide)), fun h => f4 (updL_ne h (by decide)), fun h => f5 (updL_ne h (by decide)), fun h => f6 (updL_ne h (by decide)), fun _ => rfl, fun h => f8 (updL_ne h (by decide)), fun h => f9 (updL_ne h (by decide)), fun h => f10 (updL_ne h (by decide)), fun h => f11 (updL_ne h (by decide))⟩⟩
        case s8 =>
          intro l a' w' hk hpre hJ K hK
          obtain ⟨x0, x1, x2, x3, x4, x5, x6, x7, x8, x9, x10, x11, ha, hall, hfin, hfs⟩ := hJ
          have h12 : l 12 = false := upd_last hall hk (by decide)
          clear hall hfin
          obtain ⟨hcu, hgr, f0, f1, f2, f3, f4, f5, f6, f7, f8, f9, f10, f11⟩ := hfs h12
          subst ha
          go_simp
          exact hK.out _ _ ⟨x0, x1, x2, x3, x4, x5, x6, x7, .slice (some ⟨w'.heap.size, 0, none⟩) 6 6, x9, x10, x11, by kernel_rfl, fun h => absurd (updL_ne h (by decide)) (by rw [h12]; decide), fun h => absurd (updL_ne h (by decide)) (by rw [h12]; decide), fun _ => ⟨hcu.below ((Below.refl _ _).alloc (Nat.le_refl _) _), grown_baseT hgr ((Below.refl _ _).alloc (Nat.le_refl _) _) hgr.size, fun h => SlN.mono (Stay.alloc _ _ _) (f0 (updL_ne h (by decide))), fun h => f1 (updL_ne h (by decide)), fun h => PtN.mono (Stay.alloc _ _ _) (f2 (updL_ne h (by decide))), fun h => f3 (updL_ne h (by decide)), fun h => f4 (updL_ne h (by decide)), fun h => SlN.mono (Stay.alloc _ _ _) (f5 (updL_ne h (by decide))), fun h => f6 (updL_ne h (by decide)), fun h => f7 (updL_ne h (by decide)), fun _ => ⟨_, rfl, New.made hgr.size _ _⟩, fun h => f9 (updL_ne h (by decide)), fun h => f10 (updL_ne h (by decide)), fun h => PtN.mono (Stay.alloc _ _ _) (f11 (updL_ne h (by decide)))⟩⟩
        case s9 =>
          intro l a' w' hk hpre hJ K hK
          obtain ⟨x0, x1, x2, x3, x4, x5, x6, x7, x8, x9, x10, x11, ha, hall, hfin, hfs⟩ := hJ
          have h12 : l 12 = false := upd_last hall hk (by decide)
          clear hall hfin
          obtain ⟨hcu, hgr, f0, f1, f2, f3, f4, f5, f6, f7, f8, f9, f10, f11⟩ := hfs h12
          have p7 : l 7 = true := hpre 7 (by kernel_rfl)
          have p8 : l 8 = true := hpre 8 (by kernel_rfl)
          obtain rfl := f7 p7
          obtain ⟨g, rfl, hg⟩ := f8 p8
          subst ha
          go_simp
          go_at_call 45
          refine Calls.mono (s_pickAt hcu hlw [1, 2, 2, 1, 2, 3] hg (by decide) (by decide) 1 3 (by decide)) ?_
          rintro en w2 ⟨t, rfl, ht0, ht1, hc2, hg2⟩
          exact hK.out _ _ ⟨x0, x1, x2, x3, x4, x5, x6, .pointer (some ⟨b, 0, none⟩), .slice (some ⟨g, 0, none⟩) 6 6, .int .i64 t, x10, x11, by kernel_rfl, fun h => absurd (updL_ne h (by decide)) (by rw [h12]; decide), fun h => absurd (updL_ne h (by decide)) (by rw [h12]; decide), fun _ => ⟨hc2, grown_trans2 hgr hg2, fun h => SlN.mono (Stay.grown hlw hg2) (f0 (updL_ne h (by decide))), fun h => f1 (updL_ne h (by decide)), fun h => PtN.mono (Stay.grown hlw hg2) (f2 (updL_ne h (by decide))), fun h => f3 (updL_ne h (by decide)), fun h => f4 (updL_ne h (by decide)), fun h => SlN.mono (Stay.grown hlw hg2) (f5 (updL_ne h (by decide))), fun h => f6 (updL_ne h (by decide)), fun h => f7 (updL_ne h (by decide)), fun h => SlN.mono (Stay.grown hlw hg2) (f8 (updL_ne h (by decide))), fun _ => ⟨t, rfl, ht0, ht1⟩, fun h => f10 (updL_ne h (by decide)), fun h => PtN.mono (Stay.grown hlw hg2) (f11 (updL_ne h (by decide)))⟩⟩
        case s10 =>
          intro l a' w' hk hpre hJ K hK
          obtain ⟨x0, x1, x2, x3, x4, x5, x6, x7, x8, x9, x10, x11, ha, hall, hfin, hfs⟩ := hJ
          have h12 : l 12 = false := upd_last hall hk (by decide)
          clear hall hfin
          obtain ⟨hcu, hgr, f0, f1, f2, f3, f4, f5, f6, f7, f8, f9, f10, f11⟩ := hfs h12
          have p3 : l 3 = true := hpre 3 (by kernel_rfl)
          have p6 : l 6 = true := hpre 6 (by kernel_rfl)
          have p9 : l 9 = true := hpre 9 (by kernel_rfl)
          obtain ⟨s, rfl, hs⟩ := f3 p3
          obtain ⟨t, rfl, ht0, ht1⟩ := f6 p6
          obtain ⟨m, rfl, hm0, hm1⟩ := f9 p9
          subst ha
          go_simp
          exact hK.out _ _ ⟨x0, x1, x2, .string s, x4, x5, .int .i64 t, x7, x8, .int .i64 m, .agg #[.string s, .int .i64 t, .int .i64 m, .bool false], x11, by kernel_rfl, fun h => absurd (updL_ne h (by decide)) (by rw [h12]; decide), fun h => absurd (updL_ne h (by decide)) (by rw [h12]; decide), fun _ => ⟨hcu, hgr, fun h => f0 (updL_ne h (by decide)), fun h => f1 (updL_ne h (by decide)), fun h => f2 (updL_ne h (by decide)), fun h => f3 (updL_ne h (by decide)), fun h => f4 (updL_ne h (by decide)), fun h => f5 (updL_ne h (by decide)), fun h => f6 (updL_ne h (by decide)), fun h => f7 (updL_ne h (by decide)), fun h => f8 (updL_ne h (by decide)), fun h => f9 (updL_ne h (by decide)), fun _ => ⟨s, t, m, rfl, hs, ht0, ht1, hm0, hm1⟩, fun h => f11 (updL_ne h (by decide))⟩⟩
        case s11 =>
          intro l a' w' hk hpre hJ K hK
          obtain ⟨x0, x1, x2, x3, x4, x5, x6, x7, x8, x9, x10, x11, ha, hall, hfin, hfs⟩ := hJ
          have h12 : l 12 = false := upd_last hall hk (by decide)
          clear hall hfin
          obtain ⟨hcu, hgr, f0, f1, f2, f3, f4, f5, f6, f7, f8, f9, f10, f11⟩ := hfs h12
          subst ha
          go_simp
          exact hK.out _ _ ⟨x0, x1, x2, x3, x4, x5, x6, x7, x8, x9, x10, .pointer (some ⟨w'.heap.size, 0, none⟩), by kernel_rfl, fun h => absurd (updL_ne h (by decide)) (by rw [h12]; decide), fun h => absurd (updL_ne h (by decide)) (by rw [h12]; decide), fun _ => ⟨hcu.below ((Below.refl _ _).alloc (Nat.le_refl _) _), grown_baseT hgr ((Below.refl _ _).alloc (Nat.le_refl _) _) hgr.size, fun h => SlN.mono (Stay.alloc _ _ _) (f0 (updL_ne h (by decide))), fun h => f1 (updL_ne h (by decide)), fun h => PtN.mono (Stay.alloc _ _ _) (f2 (updL_ne h (by decide))), fun h => f3 (updL_ne h (by decide)), fun h => f4 (updL_ne h (by decide)), fun h => SlN.mono (Stay.alloc _ _ _) (f5 (updL_ne h (by decide))), fun h => f6 (updL_ne h (by decide)), fun h => f7 (updL_ne h (by decide)), fun h => SlN.mono (Stay.alloc _ _ _) (f8 (updL_ne h (by decide))), fun h => f9 (updL_ne h (by decide)), fun h => f10 (updL_ne h (by decide)), fun _ => ⟨_, rfl, New.made hgr.size _ _⟩⟩⟩
        case s12 =>
          intro l a' w' hk hpre hJ K hK
          obtain ⟨x0, x1, x2, x3, x4, x5, x6, x7, x8, x9, x10, x11, ha, hall, hfin, hfs⟩ := hJ
          have h12 : l 12 = false := hk
          clear hall hfin
          obtain ⟨hcu, hgr, f0, f1, f2, f3, f4, f5, f6, f7, f8, f9, f10, f11⟩ := hfs h12
          have p10 : l 10 = true := hpre 10 (by kernel_rfl)
          have p11 : l 11 = true := hpre 11 (by kernel_rfl)
          obtain ⟨s, t, m, rfl, hs, ht0, ht1, hm0, hm1⟩ := f10 p10
          obtain ⟨g, rfl, hg⟩ := f11 p11
          refine step_store rfl 33 (.tmp 12) (.tmp 33) rfl (cs := [.string s, .int .i64 t, .int .i64 m, .bool false]) (v := .agg #[.string s, .int .i64 t, .int .i64 m, .bool false]) rfl Hi.out (by rw [ha]; kernel_rfl) (g := g) (off := 0) (by rw [ha]; kernel_rfl) rfl (by simp [Value.oneCell']) hg.2 (by decide) ?_
          intro WF hP
          subst ha
          exact hK.out _ _ ⟨x0, x1, x2, x3, x4, x5, x6, x7, x8, x9, .agg #[.string s, .int .i64 t, .int .i64 m, .bool false], .pointer (some ⟨g, 0, none⟩), by kernel_rfl, fun _ => deep_all hpre (by kernel_rfl) _, fun _ => ⟨hcu.baseT (hP.below hg.1) hlw, grown_baseT hgr (hP.below hg.1) (Nat.le_refl _), g, s, t, m, rfl, ⟨hg.1, put_whole hP rfl⟩, hs, ht0, ht1, hm0, hm1⟩, fun h => absurd h (by simp [updL])⟩
      case hend =>
        intro l a' w' hl hJ
        obtain ⟨x0, x1, x2, x3, x4, x5, x6, x7, x8, x9, x10, x11, ha, _, hfin, _⟩ := hJ
        simp [go_sem] at ha
        subst ha
        replace hfin := hfin (hl 12 (by decide))
        clear hl
        obtain ⟨hcu, hgr, g, s, t, m, rfl, hg, hs, ht0, ht1, hm0, hm1⟩ := hfin
        have Hcu := hide hcu
        have Hgr := hide hgr
        have Hgb := hide hg
        clear hcu hgr hg
        obtain ⟨A, capv, hvf, hcl, hcm⟩ := Ho.out.form
        subst hvf
        have Ho6 : Hid (OwnS 4 (AtrR 0) (w.heap.size + 2) 33 w' xs (.slice A xs.length capv) []) := hide (Ho.out.grownT (AtrR.good 0) (by omega) Hgr.out)
        have hbsz : w.heap.size + 1 < wr.heap.size := blk_lt HzB.out
        have zb6 : w'.heap[w.heap.size + 1]? = some (.cells #[.string nm, .slice A xs.length capv] 26 (0, 0)) := (Hgr.out.block _ hbsz (by intro e; injection e; omega)).trans HzB.out
        have za6 : w'.heap[w.heap.size]? = some (.cells #[.string ⟨#[]⟩, .slice none 0 0] 26 (0, 0)) := (Hgr.out.block _ (by omega) (by intro e; injection e; omega)).trans HzA.out
        have hgn : wr.heap.size ≤ g := Hgb.out.1
        have Hgb2 := hide Hgb.out.2
        have Hzb6 := hide zb6
        have Hza6 := hide za6
        have Hgw := hide (grown_trans2 Hg.out Hgr.out)
        clear zb6 za6
        have hxl : xs.length ≤ 4 := by have := Hxl.out; omega
        have q2 := cell_at (i := 2) Hgb2.out (by simp)
        simp only [Array.getD_eq_getD_getElem?, List.getElem?_toArray, List.getElem?_cons_succ, List.getElem?_cons_zero, Option.getD_some] at q2
        have y1 := frozen_of_row w' _ 1 _ _ Hgb2.out
        by_cases hm3 : m = 3
        · subst hm3
          have hBs : Below wr.heap.size w' (w'.setCell ⟨g, 1, none⟩ (.int .i64 2)) := Below.setCell (p := ⟨g, 1, none⟩) (Below.refl _ _) hgn _
          have zg7 : (w'.setCell ⟨g, 1, none⟩ (.int .i64 2)).heap[g]? = some (.cells #[.string s, .int .i64 2, .int .i64 3, .bool false] 33 (0, 0)) := heap_setCell_same w' g 1 _ _ (.int .i64 2) Hgb2.out
          have zb7 : (w'.setCell ⟨g, 1, none⟩ (.int .i64 2)).heap[w.heap.size + 1]? = _ := (hBs.block _ (by omega)).trans Hzb6.out
          have za7 : (w'.setCell ⟨g, 1, none⟩ (.int .i64 2)).heap[w.heap.size]? = _ := (hBs.block _ (by omega)).trans Hza6.out
          have hc7 := Hcu.out.baseT hBs hlw
          have hg7 := grown_baseT Hgw.out hBs (by omega)
          have ho7 : OwnS 4 (AtrR 0) (w.heap.size + 2) 33 (w'.setCell ⟨g, 1, none⟩ (.int .i64 2)) xs (.slice A xs.length capv) [] := OwnS.setFar (AtrR.good 0) Ho.out Ho6.out hgn
          have ht70 : 1 ≤ (2 : Int) := by decide
          have ht71 : (2 : Int) ≤ 4 := by decide
          have q1 := cell_at (i := 1) Hgb2.out (by simp)
          clear ht0 ht1 hBs
          have hbz7 : w.heap.size + 1 < (w'.setCell ⟨g, 1, none⟩ (.int .i64 2)).heap.size := blk_lt zb7
          have hA7 : Hid (CellsAt (w'.setCell ⟨g, 1, none⟩ (.int .i64 2)) g 0 [.string s, .int .i64 2, .int .i64 3, .bool false]) := hide fun i u hu => by
            rw [cell_of_row _ _ _ _ _ _ zg7, Nat.zero_add]
            simpa using hu
          have kb7 := cell_at (i := 1) zb7 (by simp)
          have hok7 : Hid ((⟨s, 2, 3, false⟩ : Atr).ok) := hide (atr_ok hs ht70 ht71 hm0 hm1)
          have Hzb7 := hide zb7
          have Hza7 := hide za7
          have Ho7 := hide ho7
          have Hc7 := hide hc7
          have Hg7 := hide hg7
          clear zb7 za7 zg7 ho7 hc7 hg7
          go_wp2_with (first
            | refine wpList_load_at 33 (.tmp 12) rfl Tryd.underlying33 rfl Hi.out rfl rfl (by rfl) hA7.out ?_
            | (at_builtin; refine app_ownS rfl (.tmp 59) (.tmp 61) 24 33 rfl Tryd.underlying24 infoAtr2 rfl (by decide) (AtrR.good 0) (w'.setCell ⟨g, 1, none⟩ (.int .i64 2)) (w'.setCell ⟨g, 1, none⟩ (.int .i64 2)) (w.heap.size + 2) _ xs [] Ho7.out rfl (Below.refl _ _) ⟨s, 2, 3, false⟩ [.string s, .int .i64 2, .int .i64 3, .bool false] [] ⟨rfl, hok7.out, rfl, rfl, rfl, rfl, rfl⟩ (Fresh.nil _ _) (by simp [Value.oneCell']) (by first | rfl | (rw [size_setC]; rfl)) (by omega) (by omega) (by omega) ?_; intro v8 w8 hown8 hbl8; obtain ⟨A8, cap8, hv8, _, _⟩ := hown8.form; rw [show (xs ++ [(⟨s, 2, 3, false⟩ : Atr)]).length = xs.length + 1 from by simp] at hv8; subst hv8; have zb8 : w8.heap[w.heap.size + 1]? = some (.cells #[.string nm, .slice A xs.length capv] 26 (0, 0)) := (hbl8.block _ (by omega)).trans Hzb7.out; have q8 := cell_at (i := 1) zb8 (by simp); have y8 := frozen_of_row w8 _ 1 _ _ zb8; have Hown8 := hide hown8; have Hzb8 := hide zb8; have HS8 := hide hbl8; clear hown8 hbl8))
          have hown9 : OwnS 4 (AtrR 0) (w.heap.size + 2) 33 (w8.setCell ⟨w.heap.size + 1, 1, none⟩ (.slice A8 (xs.length + 1) cap8)) (xs ++ [⟨s, 2, 3, false⟩]) (.slice A8 (xs.length + 1) cap8) [] := OwnS.same (AtrR.good 0) Hown8.out (fun k hk _ => heap_setCell_other _ _ _ _ (by simp; omega)) (by simp)
          have zb9 := heap_setCell_same w8 (w.heap.size + 1) 1 _ _ (.slice A8 (xs.length + 1) cap8) Hzb8.out
          have za9 : (w8.setCell ⟨w.heap.size + 1, 1, none⟩ (.slice A8 (xs.length + 1) cap8)).heap[w.heap.size]? = some (.cells #[.string ⟨#[]⟩, .slice none 0 0] 26 (0, 0)) := (heap_setCell_other _ _ _ _ (by simp)).trans ((HS8.out.block _ (by omega)).trans Hza7.out)
          have hB9 : Below (w.heap.size + 1) (w'.setCell ⟨g, 1, none⟩ (.int .i64 2)) (w8.setCell ⟨w.heap.size + 1, 1, none⟩ (.slice A8 (xs.length + 1) cap8)) := Below.setCell (p := ⟨w.heap.size + 1, 1, none⟩) (HS8.out.mono (Nat.le_succ _)) (Nat.le_refl _) _
          have Hc9 := hide (Hc7.out.baseT hB9 (by omega))
          have Hg9 := hide (grown_baseT Hg7.out hB9 (by omega))
          have Hown9 := hide hown9
          have Hzb9 := hide zb9
          have Hza9 := hide za9
          clear hown9 zb9 za9 hB9 q8 y8 kb7
          go_wp2_with fail
          go_roundw
          case rel => exact ⟨j + 1, xs ++ [⟨s, 2, 3, false⟩], _, by omega, by go_num, hide (by rw [List.length_append, Hxl.out]; rfl), hide (fun a ha => by rcases List.mem_append.1 ha with h | h; exact Hx.out a h; rw [List.mem_singleton.1 h]; exact ⟨hok7.out, hs⟩), Hza9, hide (by exact Hzb9.out), hide (Hown9.out.same (AtrR.good 0) (fun _ _ _ => rfl) (Nat.le_refl _)), Hc9, Hg9⟩
          case measure => simp [RowKit.intOf]; omega
        · have hm4 : (m == 3) = false := by simpa using hm3
          have zg7 := Hgb2.out
          have zb7 := Hzb6.out
          have za7 := Hza6.out
          have hc7 := Hcu.out
          have hg7 := Hgw.out
          have ho7 := Ho6.out
          have ht70 := ht0
          have ht71 := ht1
          clear ht0 ht1
          have hbz7 : w.heap.size + 1 < w'.heap.size := blk_lt zb7
          have hA7 : Hid (CellsAt w' g 0 [.string s, .int .i64 t, .int .i64 m, .bool false]) := hide fun i u hu => by
            rw [cell_of_row _ _ _ _ _ _ zg7, Nat.zero_add]
            simpa using hu
          have kb7 := cell_at (i := 1) zb7 (by simp)
          have hok7 : Hid ((⟨s, t, m, false⟩ : Atr).ok) := hide (atr_ok hs ht70 ht71 hm0 hm1)
          have Hzb7 := hide zb7
          have Hza7 := hide za7
          have Ho7 := hide ho7
          have Hc7 := hide hc7
          have Hg7 := hide hg7
          clear zb7 za7 zg7 ho7 hc7 hg7
          go_wp2_with (first
            | refine wpList_load_at 33 (.tmp 12) rfl Tryd.underlying33 rfl Hi.out rfl rfl (by rfl) hA7.out ?_
            | (at_builtin; refine app_ownS rfl (.tmp 59) (.tmp 61) 24 33 rfl Tryd.underlying24 infoAtr2 rfl (by decide) (AtrR.good 0) w' w' (w.heap.size + 2) _ xs [] Ho7.out rfl (Below.refl _ _) ⟨s, t, m, false⟩ [.string s, .int .i64 t, .int .i64 m, .bool false] [] ⟨rfl, hok7.out, rfl, rfl, rfl, rfl, rfl⟩ (Fresh.nil _ _) (by simp [Value.oneCell']) (by first | rfl | (rw [size_setC]; rfl)) (by omega) (by omega) (by omega) ?_; intro v8 w8 hown8 hbl8; obtain ⟨A8, cap8, hv8, _, _⟩ := hown8.form; rw [show (xs ++ [(⟨s, t, m, false⟩ : Atr)]).length = xs.length + 1 from by simp] at hv8; subst hv8; have zb8 : w8.heap[w.heap.size + 1]? = some (.cells #[.string nm, .slice A xs.length capv] 26 (0, 0)) := (hbl8.block _ (by omega)).trans Hzb7.out; have q8 := cell_at (i := 1) zb8 (by simp); have y8 := frozen_of_row w8 _ 1 _ _ zb8; have Hown8 := hide hown8; have Hzb8 := hide zb8; have HS8 := hide hbl8; clear hown8 hbl8))
          have hown9 : OwnS 4 (AtrR 0) (w.heap.size + 2) 33 (w8.setCell ⟨w.heap.size + 1, 1, none⟩ (.slice A8 (xs.length + 1) cap8)) (xs ++ [⟨s, t, m, false⟩]) (.slice A8 (xs.length + 1) cap8) [] := OwnS.same (AtrR.good 0) Hown8.out (fun k hk _ => heap_setCell_other _ _ _ _ (by simp; omega)) (by simp)
          have zb9 := heap_setCell_same w8 (w.heap.size + 1) 1 _ _ (.slice A8 (xs.length + 1) cap8) Hzb8.out
          have za9 : (w8.setCell ⟨w.heap.size + 1, 1, none⟩ (.slice A8 (xs.length + 1) cap8)).heap[w.heap.size]? = some (.cells #[.string ⟨#[]⟩, .slice none 0 0] 26 (0, 0)) := (heap_setCell_other _ _ _ _ (by simp)).trans ((HS8.out.block _ (by omega)).trans Hza7.out)
          have hB9 : Below (w.heap.size + 1) w' (w8.setCell ⟨w.heap.size + 1, 1, none⟩ (.slice A8 (xs.length + 1) cap8)) := Below.setCell (p := ⟨w.heap.size + 1, 1, none⟩) (HS8.out.mono (Nat.le_succ _)) (Nat.le_refl _) _
          have Hc9 := hide (Hc7.out.baseT hB9 (by omega))
          have Hg9 := hide (grown_baseT Hg7.out hB9 (by omega))
          have Hown9 := hide hown9
          have Hzb9 := hide zb9
          have Hza9 := hide za9
          clear hown9 zb9 za9 hB9 q8 y8 kb7
          go_wp2_with fail
          go_roundw
          case rel => exact ⟨j + 1, xs ++ [⟨s, t, m, false⟩], _, by omega, by go_num, hide (by rw [List.length_append, Hxl.out]; rfl), hide (fun a ha => by rcases List.mem_append.1 ha with h | h; exact Hx.out a h; rw [List.mem_singleton.1 h]; exact ⟨hok7.out, hs⟩), Hza9, hide (by exact Hzb9.out), hide (Hown9.out.same (AtrR.good 0) (fun _ _ _ => rfl) (Nat.le_refl _)), Hc9, Hg9⟩
          case measure => simp [RowKit.intOf]; omega
    · have hcS : Hid (CellsAt wr (w.heap.size + 1) 0 [.string nm, v]) := hide fun i u hu => by
        rw [cell_of_row _ _ _ _ _ _ HzB.out, Nat.zero_add]
        simpa using hu
      obtain ⟨A, capv, hvf, hcl, hcm⟩ := Ho.out.form
      subst hvf
      go_wp2_with (first
        | refine wpList_load_at 26 (.tmp 9) rfl Tryd.underlying26 rfl His.out rfl rfl (by rfl) hcS.out ?_
        | (refine wpList_store_at 26 (.tmp 8) (.tmp 64) (cs := [.string nm, .slice A xs.length capv]) rfl His.out rfl rfl rfl rfl (by simp [Value.oneCell']) HzA.out (by decide) ?_; intro WF hP; have HP := hide hP; clear hP))
      obtain ⟨x0, x1⟩ := HP.out.cellsAt.two0
      have hbF : Below w.heap.size wr WF := HP.out.below (Nat.le_refl _)
      exact bodyPost_ret (v := .agg #[.string nm, .slice A xs.length capv]) (by simp [results, Tryd.results29, go_sem, x0, x1]) rfl ⟨⟨nm, xs⟩, _, rfl, ⟨w.heap.size + 2, by omega, OwnS.keep1 (AtrR.good 0) Ho.out (fun k hk => HP.out.far k (by have := (Ho.out.blk k hk).1; omega)) (by rw [HP.out.size]; exact Nat.le_refl _)⟩, ⟨Hnm.out, by show xs.length ≤ 5; have := Hxl.out; omega, by show 1 ≤ xs.length; have := Hxl.out; omega, Hx.out⟩, Hc.out.baseT hbF hlt, grown_baseT Hg.out hbF (Nat.le_refl _)⟩
end Go.Proofs.YtilndebjnibgjaaDoor
