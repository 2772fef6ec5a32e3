/- The program's comparison of two occurrences: it makes blocks of its own and returns which comes first. Conditions: none. -/
import Derived.Test.YtaihdnlpdibkoaaUseA
import Derived.Test.YtaihdnlpdibkoaaMade
namespace Go.Proofs.Ytaihdnlpdibkoaa
set_option maxRecDepth 100000
open Go.RowKit Go.WideShapes
set_option linter.unusedVariables false

set_option maxRecDepth 100000 in
set_option maxHeartbeats 2000000 in
theorem t_cmpO (x y : Occ) (w : World) : Calls Try.prog 61 #[.agg #[.int .i64 x.pos, .string x.name], .agg #[.int .i64 y.pos, .string y.name]] w fun e w' => e = .returned (.int .i64 (cmpO x y)) ∧ ∃ (q : Nat) (os : Array Obj), w' = Sort.grow (w.drewN q) os := by
  have z1 := heap_alloc_new w (.cells #[.int .i64 x.pos, .string x.name] 65)
  have z2 := heap_alloc_new (w.alloc (.cells #[.int .i64 x.pos, .string x.name] 65)) (.cells #[.int .i64 y.pos, .string y.name] 65)
  rw [World.size_alloc] at z2
  have z1' := ((Below.refl (w.heap.size + 1) (w.alloc (.cells #[.int .i64 x.pos, .string x.name] 65))).alloc (by simp) (.cells #[.int .i64 y.pos, .string y.name] 65)).block w.heap.size (by omega)
  rw [z1] at z1'
  obtain ⟨V, hV⟩ : ∃ V, V = (w.alloc (.cells #[.int .i64 x.pos, .string x.name] 65)).alloc (.cells #[.int .i64 y.pos, .string y.name] 65) := ⟨_, rfl⟩
  rw [← hV] at z1' z2
  have q1 : Hid (V.drew.cell? ⟨w.heap.size, 0, none⟩ = some (.int .i64 x.pos)) := hide (by rw [cell_of_row V.drew _ 0 _ _ _ z1']; rfl)
  have q3 : Hid (V.drew.cell? ⟨w.heap.size, 1, none⟩ = some (.string x.name)) := hide (by rw [cell_of_row V.drew _ 1 _ _ _ z1']; rfl)
  have q2 : Hid (V.drew.cell? ⟨w.heap.size + 1, 0, none⟩ = some (.int .i64 y.pos)) := hide (by rw [cell_of_row V.drew _ 0 _ _ _ z2]; rfl)
  have q4 : Hid (V.drew.cell? ⟨w.heap.size + 1, 1, none⟩ = some (.string y.name)) := hide (by rw [cell_of_row V.drew _ 1 _ _ _ z2]; rfl)
  have Hv := hide hV
  clear z1 z2 z1'
  go_enter Try.func61, Try.ntmps61
  go_wp2_with fail
  rw [← hV]
  clear hV
  refine region_invA (fun a0 l a' w' => ∃ x0 x1 x2 x3 x4 x5 x6 x7 x8 x9 x10 x11 x12 : Value, a' = (((((((((((((a0.put (some 5) x0).put (some 6) x1).put (some 7) x2).put (some 8) x3).put (some 9) x4).put (some 10) x5).put (some 11) x6).put (some 12) x7).put (some 13) x8).put (some 14) x9).put (some 15) x10).put (some 16) x11).put (some 4) x12) ∧ (l 12 = true → ∀ i, i < 12 → l i = true) ∧ (l 12 = true → x12 = .int .i64 (cmpO x y) ∧ w' = V.drew.alloc (.cells #[.int .i64 (cmpI x.pos y.pos), .int .i64 (cmpB x.name.data.toList y.name.data.toList)] 3)) ∧ (l 12 = false → (l 10 = true → ∀ i, i < 10 → l i = true) ∧ (l 10 = false → Hid (w' = V.drew)) ∧ (l 10 = true → Hid (w' = V.drew.alloc (.cells #[.int .i64 (cmpI x.pos y.pos), .int .i64 (cmpB x.name.data.toList y.name.data.toList)] 3))) ∧ (l 0 = true → x0 = .pointer (some ⟨w.heap.size, 0, none⟩)) ∧ (l 1 = true → x1 = .int .i64 x.pos) ∧ (l 2 = true → x2 = .pointer (some ⟨w.heap.size + 1, 0, none⟩)) ∧ (l 3 = true → x3 = .int .i64 y.pos) ∧ (l 4 = true → x4 = .int .i64 (cmpI x.pos y.pos)) ∧ (l 5 = true → x5 = .pointer (some ⟨w.heap.size, 1, none⟩)) ∧ (l 6 = true → x6 = .string x.name) ∧ (l 7 = true → x7 = .pointer (some ⟨w.heap.size + 1, 1, none⟩)) ∧ (l 8 = true → x8 = .string y.name) ∧ (l 9 = true → x9 = .int .i64 (cmpB x.name.data.toList y.name.data.toList)) ∧ (l 10 = true → ∃ g : Nat, x10 = .slice (some ⟨g, 0, none⟩) 2 2 ∧ w'.heap[g]? = some (.cells #[.int .i64 (cmpI x.pos y.pos), .int .i64 (cmpB x.name.data.toList y.name.data.toList)] 3 (0, 0))) ∧ (l 11 = true → x11 = .int .i64 (cmpO x y)))) rfl (by kernel_rfl) ?h0 ?hstep ?hend
  case h0 => exact ⟨undef, undef, undef, undef, undef, undef, undef, undef, undef, undef, undef, undef, .int .i64 0, by kernel_rfl, fun h => absurd h (by decide), fun h => absurd h (by decide), fun _ => ⟨fun h => absurd h (by decide), fun _ => hide rfl, fun h => absurd h (by decide), fun h => absurd h (by decide), fun h => absurd h (by decide), fun h => absurd h (by decide), fun h => absurd h (by decide), fun h => absurd h (by decide), fun h => absurd h (by decide), fun h => absurd h (by decide), fun h => absurd h (by decide), fun h => absurd h (by decide), fun h => absurd h (by decide), fun h => absurd h (by decide), fun h => absurd h (by decide)⟩⟩
  case hstep =>
    refine ⟨?s0, ?s1, ?s2, ?s3, ?s4, ?s5, ?s6, ?s7, ?s8, ?s9, ?s10, ?s11, ?s12, trivial⟩
    case s0 =>
      intro l a' w' hk hpre hJ K hK
      obtain ⟨x0, x1, x2, x3, x4, x5, x6, x7, x8, x9, x10, x11, x12, ha, hall, hfin, hfs⟩ := hJ
      have h12 : l 12 = false := upd_last hall hk (by decide)
      clear hall hfin
      obtain ⟨hA, hE, hF, f0, f1, f2, f3, f4, f5, f6, f7, f8, f9, f10, f11⟩ := hfs h12
      clear hfs
      have h10 : l 10 = false := upd_last hA hk (by decide)

      subst ha
      go_simp
      exact hK.out _ _ ⟨.pointer (some ⟨w.heap.size, 0, none⟩), x1, x2, x3, x4, x5, x6, x7, x8, x9, x10, x11, x12, by kernel_rfl, fun h => absurd (updL_ne h (by decide)) (by rw [h12]; decide), fun h => absurd (updL_ne h (by decide)) (by rw [h12]; decide), fun _ => ⟨updL_all hA (by decide), fun h => hE (updL_f h), fun h => hF (updL_ne h (by decide)), fun _ => rfl, fun h => f1 (updL_ne h (by decide)), fun h => f2 (updL_ne h (by decide)), fun h => f3 (updL_ne h (by decide)), fun h => f4 (updL_ne h (by decide)), fun h => f5 (updL_ne h (by decide)), fun h => f6 (updL_ne h (by decide)), fun h => f7 (updL_ne h (by decide)), fun h => f8 (updL_ne h (by decide)), fun h => f9 (updL_ne h (by decide)), fun h => absurd (updL_ne h (by decide)) (by rw [h10]; decide), fun h => f11 (updL_ne h (by decide))⟩⟩
    case s1 =>
      intro l a' w' hk hpre hJ K hK
      obtain ⟨x0, x1, x2, x3, x4, x5, x6, x7, x8, x9, x10, x11, x12, ha, hall, hfin, hfs⟩ := hJ
      have h12 : l 12 = false := upd_last hall hk (by decide)
      clear hall hfin
      obtain ⟨hA, hE, hF, f0, f1, f2, f3, f4, f5, f6, f7, f8, f9, f10, f11⟩ := hfs h12
      clear hfs
      have p0 : l 0 = true := hpre 0 (by kernel_rfl)
      have h10 : l 10 = false := upd_last hA hk (by decide)
      have hw := (hE h10).out
      obtain rfl := f0 p0
      have q : w'.cell? ⟨w.heap.size, 0, none⟩ = some (.int .i64 x.pos) := by rw [hw]; exact q1.out
      clear hw
      subst ha
      go_simp
      exact hK.out _ _ ⟨.pointer (some ⟨w.heap.size, 0, none⟩), .int .i64 x.pos, x2, x3, x4, x5, x6, x7, x8, x9, x10, x11, x12, by kernel_rfl, fun h => absurd (updL_ne h (by decide)) (by rw [h12]; decide), fun h => absurd (updL_ne h (by decide)) (by rw [h12]; decide), fun _ => ⟨updL_all hA (by decide), fun h => hE (updL_f h), fun h => hF (updL_ne h (by decide)), fun h => f0 (updL_ne h (by decide)), fun _ => rfl, fun h => f2 (updL_ne h (by decide)), fun h => f3 (updL_ne h (by decide)), fun h => f4 (updL_ne h (by decide)), fun h => f5 (updL_ne h (by decide)), fun h => f6 (updL_ne h (by decide)), fun h => f7 (updL_ne h (by decide)), fun h => f8 (updL_ne h (by decide)), fun h => f9 (updL_ne h (by decide)), fun h => absurd (updL_ne h (by decide)) (by rw [h10]; decide), fun h => f11 (updL_ne h (by decide))⟩⟩
    case s2 =>
      intro l a' w' hk hpre hJ K hK
      obtain ⟨x0, x1, x2, x3, x4, x5, x6, x7, x8, x9, x10, x11, x12, ha, hall, hfin, hfs⟩ := hJ
      have h12 : l 12 = false := upd_last hall hk (by decide)
      clear hall hfin
      obtain ⟨hA, hE, hF, f0, f1, f2, f3, f4, f5, f6, f7, f8, f9, f10, f11⟩ := hfs h12
      clear hfs
      have h10 : l 10 = false := upd_last hA hk (by decide)

      subst ha
      go_simp
      exact hK.out _ _ ⟨x0, x1, .pointer (some ⟨w.heap.size + 1, 0, none⟩), x3, x4, x5, x6, x7, x8, x9, x10, x11, x12, by kernel_rfl, fun h => absurd (updL_ne h (by decide)) (by rw [h12]; decide), fun h => absurd (updL_ne h (by decide)) (by rw [h12]; decide), fun _ => ⟨updL_all hA (by decide), fun h => hE (updL_f h), fun h => hF (updL_ne h (by decide)), fun h => f0 (updL_ne h (by decide)), fun h => f1 (updL_ne h (by decide)), fun _ => rfl, fun h => f3 (updL_ne h (by decide)), fun h => f4 (updL_ne h (by decide)), fun h => f5 (updL_ne h (by decide)), fun h => f6 (updL_ne h (by decide)), fun h => f7 (updL_ne h (by decide)), fun h => f8 (updL_ne h (by decide)), fun h => f9 (updL_ne h (by decide)), fun h => absurd (updL_ne h (by decide)) (by rw [h10]; decide), fun h => f11 (updL_ne h (by decide))⟩⟩
    case s3 =>
      intro l a' w' hk hpre hJ K hK
      obtain ⟨x0, x1, x2, x3, x4, x5, x6, x7, x8, x9, x10, x11, x12, ha, hall, hfin, hfs⟩ := hJ
      have h12 : l 12 = false := upd_last hall hk (by decide)
      clear hall hfin
      obtain ⟨hA, hE, hF, f0, f1, f2, f3, f4, f5, f6, f7, f8, f9, f10, f11⟩ := hfs h12
      clear hfs
      have p2 : l 2 = true := hpre 2 (by kernel_rfl)
      have h10 : l 10 = false := upd_last hA hk (by decide)
      have hw := (hE h10).out
      obtain rfl := f2 p2
      have q : w'.cell? ⟨w.heap.size + 1, 0, none⟩ = some (.int .i64 y.pos) := by rw [hw]; exact q2.out
      clear hw
      subst ha
      go_simp
      exact hK.out _ _ ⟨x0, x1, .pointer (some ⟨w.heap.size + 1, 0, none⟩), .int .i64 y.pos, x4, x5, x6, x7, x8, x9, x10, x11, x12, by kernel_rfl, fun h => absurd (updL_ne h (by decide)) (by rw [h12]; decide), fun h => absurd (updL_ne h (by decide)) (by rw [h12]; decide), fun _ => ⟨updL_all hA (by decide), fun h => hE (updL_f h), fun h => hF (updL_ne h (by decide)), fun h => f0 (updL_ne h (by decide)), fun h => f1 (updL_ne h (by decide)), fun h => f2 (updL_ne h (by decide)), fun _ => rfl, fun h => f4 (updL_ne h (by decide)), fun h => f5 (updL_ne h (by decide)), fun h => f6 (updL_ne h (by decide)), fun h => f7 (updL_ne h (by decide)), fun h => f8 (updL_ne h (by decide)), fun h => f9 (updL_ne h (by decide)), fun h => absurd (updL_ne h (by decide)) (by rw [h10]; decide), fun h => f11 (updL_ne h (by decide))⟩⟩
    case s4 =>
      intro l a' w' hk hpre hJ K hK
      obtain ⟨x0, x1, x2, x3, x4, x5, x6, x7, x8, x9, x10, x11, x12, ha, hall, hfin, hfs⟩ := hJ
      have h12 : l 12 = false := upd_last hall hk (by decide)
      clear hall hfin
      obtain ⟨hA, hE, hF, f0, f1, f2, f3, f4, f5, f6, f7, f8, f9, f10, f11⟩ := hfs h12
      clear hfs
      have p1 : l 1 = true := hpre 1 (by kernel_rfl)
      have p3 : l 3 = true := hpre 3 (by kernel_rfl)
      have h10 : l 10 = false := upd_last hA hk (by decide)
      obtain rfl := f1 p1
      obtain rfl := f3 p3

      subst ha
      go_simp
      go_at_call 94
      refine Calls.mono (t_CmpI _ _ _) ?_
      rintro en w2 ⟨rfl, hw2⟩
      obtain rfl := hw2.symm
      exact hK.out _ _ ⟨x0, .int .i64 x.pos, x2, .int .i64 y.pos, .int .i64 (cmpI x.pos y.pos), x5, x6, x7, x8, x9, x10, x11, x12, by kernel_rfl, fun h => absurd (updL_ne h (by decide)) (by rw [h12]; decide), fun h => absurd (updL_ne h (by decide)) (by rw [h12]; decide), fun _ => ⟨updL_all hA (by decide), fun h => hE (updL_f h), fun h => hF (updL_ne h (by decide)), fun h => f0 (updL_ne h (by decide)), fun h => f1 (updL_ne h (by decide)), fun h => f2 (updL_ne h (by decide)), fun h => f3 (updL_ne h (by decide)), fun _ => rfl, fun h => f5 (updL_ne h (by decide)), fun h => f6 (updL_ne h (by decide)), fun h => f7 (updL_ne h (by decide)), fun h => f8 (updL_ne h (by decide)), fun h => f9 (updL_ne h (by decide)), fun h => absurd (updL_ne h (by decide)) (by rw [h10]; decide), fun h => f11 (updL_ne h (by decide))⟩⟩
    case s5 =>
      intro l a' w' hk hpre hJ K hK
      obtain ⟨x0, x1, x2, x3, x4, x5, x6, x7, x8, x9, x10, x11, x12, ha, hall, hfin, hfs⟩ := hJ
      have h12 : l 12 = false := upd_last hall hk (by decide)
      clear hall hfin
      obtain ⟨hA, hE, hF, f0, f1, f2, f3, f4, f5, f6, f7, f8, f9, f10, f11⟩ := hfs h12
      clear hfs
      have h10 : l 10 = false := upd_last hA hk (by decide)

      subst ha
      go_simp
      exact hK.out _ _ ⟨x0, x1, x2, x3, x4, .pointer (some ⟨w.heap.size, 1, none⟩), x6, x7, x8, x9, x10, x11, x12, by kernel_rfl, fun h => absurd (updL_ne h (by decide)) (by rw [h12]; decide), fun h => absurd (updL_ne h (by decide)) (by rw [h12]; decide), fun _ => ⟨updL_all hA (by decide), fun h => hE (updL_f h), fun h => hF (updL_ne h (by decide)), fun h => f0 (updL_ne h (by decide)), fun h => f1 (updL_ne h (by decide)), fun h => f2 (updL_ne h (by decide)), fun h => f3 (updL_ne h (by decide)), fun h => f4 (updL_ne h (by decide)), fun _ => rfl, fun h => f6 (updL_ne h (by decide)), fun h => f7 (updL_ne h (by decide)), fun h => f8 (updL_ne h (by decide)), fun h => f9 (updL_ne h (by decide)), fun h => absurd (updL_ne h (by decide)) (by rw [h10]; decide), fun h => f11 (updL_ne h (by decide))⟩⟩
    case s6 =>
      intro l a' w' hk hpre hJ K hK
      obtain ⟨x0, x1, x2, x3, x4, x5, x6, x7, x8, x9, x10, x11, x12, ha, hall, hfin, hfs⟩ := hJ
      have h12 : l 12 = false := upd_last hall hk (by decide)
      clear hall hfin
      obtain ⟨hA, hE, hF, f0, f1, f2, f3, f4, f5, f6, f7, f8, f9, f10, f11⟩ := hfs h12
      clear hfs
      have p5 : l 5 = true := hpre 5 (by kernel_rfl)
      have h10 : l 10 = false := upd_last hA hk (by decide)
      have hw := (hE h10).out
      obtain rfl := f5 p5
      have q : w'.cell? ⟨w.heap.size, 1, none⟩ = some (.string x.name) := by rw [hw]; exact q3.out
      clear hw
      subst ha
      go_simp
      exact hK.out _ _ ⟨x0, x1, x2, x3, x4, .pointer (some ⟨w.heap.size, 1, none⟩), .string x.name, x7, x8, x9, x10, x11, x12, by kernel_rfl, fun h => absurd (updL_ne h (by decide)) (by rw [h12]; decide), fun h => absurd (updL_ne h (by decide)) (by rw [h12]; decide), fun _ => ⟨updL_all hA (by decide), fun h => hE (updL_f h), fun h => hF (updL_ne h (by decide)), fun h => f0 (updL_ne h (by decide)), fun h => f1 (updL_ne h (by decide)), fun h => f2 (updL_ne h (by decide)), fun h => f3 (updL_ne h (by decide)), fun h => f4 (updL_ne h (by decide)), fun h => f5 (updL_ne h (by decide)), fun _ => rfl, fun h => f7 (updL_ne h (by decide)), fun h => f8 (updL_ne h (by decide)), fun h => f9 (updL_ne h (by decide)), fun h => absurd (updL_ne h (by decide)) (by rw [h10]; decide), fun h => f11 (updL_ne h (by decide))⟩⟩
    case s7 =>
      intro l a' w' hk hpre hJ K hK
      obtain ⟨x0, x1, x2, x3, x4, x5, x6, x7, x8, x9, x10, x11, x12, ha, hall, hfin, hfs⟩ := hJ
      have h12 : l 12 = false := upd_last hall hk (by decide)
      clear hall hfin
      obtain ⟨hA, hE, hF, f0, f1, f2, f3, f4, f5, f6, f7, f8, f9, f10, f11⟩ := hfs h12
      clear hfs
      have h10 : l 10 = false := upd_last hA hk (by decide)

      subst ha
      go_simp
      exact hK.out _ _ ⟨x0, x1, x2, x3, x4, x5, x6, .pointer (some ⟨w.heap.size + 1, 1, none⟩), x8, x9, x10, x11, x12, by kernel_rfl, fun h => absurd (updL_ne h (by decide)) (by rw [h12]; decide), fun h => absurd (updL_ne h (by decide)) (by rw [h12]; decide), fun _ => ⟨updL_all hA (by decide), fun h => hE (updL_f h), fun h => hF (updL_ne h (by decide)), fun h => f0 (updL_ne h (by decide)), fun h => f1 (updL_ne h (by decide)), fun h => f2 (updL_ne h (by decide)), fun h => f3 (updL_ne h (by decide)), fun h => f4 (updL_ne h (by decide)), fun h => f5 (updL_ne h (by decide)), fun h => f6 (updL_ne h (by decide)), fun _ => rfl, fun h => f8 (updL_ne h (by decide)), fun h => f9 (updL_ne h (by decide)), fun h => absurd (updL_ne h (by decide)) (by rw [h10]; decide), fun h => f11 (updL_ne h (by decide))⟩⟩
    case s8 =>
      intro l a' w' hk hpre hJ K hK
      obtain ⟨x0, x1, x2, x3, x4, x5, x6, x7, x8, x9, x10, x11, x12, ha, hall, hfin, hfs⟩ := hJ
      have h12 : l 12 = false := upd_last hall hk (by decide)
      clear hall hfin
      obtain ⟨hA, hE, hF, f0, f1, f2, f3, f4, f5, f6, f7, f8, f9, f10, f11⟩ := hfs h12
      clear hfs
      have p7 : l 7 = true := hpre 7 (by kernel_rfl)
      have h10 : l 10 = false := upd_last hA hk (by decide)
      have hw := (hE h10).out
      obtain rfl := f7 p7
      have q : w'.cell? ⟨w.heap.size + 1, 1, none⟩ = some (.string y.name) := by rw [hw]; exact q4.out
      clear hw
      subst ha
      go_simp
      exact hK.out _ _ ⟨x0, x1, x2, x3, x4, x5, x6, .pointer (some ⟨w.heap.size + 1, 1, none⟩), .string y.name, x9, x10, x11, x12, by kernel_rfl, fun h => absurd (updL_ne h (by decide)) (by rw [h12]; decide), fun h => absurd (updL_ne h (by decide)) (by rw [h12]; decide), fun _ => ⟨updL_all hA (by decide), fun h => hE (updL_f h), fun h => hF (updL_ne h (by decide)), fun h => f0 (updL_ne h (by decide)), fun h => f1 (updL_ne h (by decide)), fun h => f2 (updL_ne h (by decide)), fun h => f3 (updL_ne h (by decide)), fun h => f4 (updL_ne h (by decide)), fun h => f5 (updL_ne h (by decide)), fun h => f6 (updL_ne h (by decide)), fun h => f7 (updL_ne h (by decide)), fun _ => rfl, fun h => f9 (updL_ne h (by decide)), fun h => absurd (updL_ne h (by decide)) (by rw [h10]; decide), fun h => f11 (updL_ne h (by decide))⟩⟩
    case s9 =>
      intro l a' w' hk hpre hJ K hK
      obtain ⟨x0, x1, x2, x3, x4, x5, x6, x7, x8, x9, x10, x11, x12, ha, hall, hfin, hfs⟩ := hJ
      have h12 : l 12 = false := upd_last hall hk (by decide)
      clear hall hfin
      obtain ⟨hA, hE, hF, f0, f1, f2, f3, f4, f5, f6, f7, f8, f9, f10, f11⟩ := hfs h12
      clear hfs
      have p6 : l 6 = true := hpre 6 (by kernel_rfl)
      have p8 : l 8 = true := hpre 8 (by kernel_rfl)
      have h10 : l 10 = false := upd_last hA hk (by decide)
      obtain rfl := f6 p6
      obtain rfl := f8 p8

      subst ha
      go_simp
      go_at_call 95
      refine Calls.mono (t_CmpS _ _ _) ?_
      rintro en w2 ⟨rfl, hw2⟩
      obtain rfl := hw2.symm
      exact hK.out _ _ ⟨x0, x1, x2, x3, x4, x5, .string x.name, x7, .string y.name, .int .i64 (cmpB x.name.data.toList y.name.data.toList), x10, x11, x12, by kernel_rfl, fun h => absurd (updL_ne h (by decide)) (by rw [h12]; decide), fun h => absurd (updL_ne h (by decide)) (by rw [h12]; decide), fun _ => ⟨updL_all hA (by decide), fun h => hE (updL_f h), fun h => hF (updL_ne h (by decide)), fun h => f0 (updL_ne h (by decide)), fun h => f1 (updL_ne h (by decide)), fun h => f2 (updL_ne h (by decide)), fun h => f3 (updL_ne h (by decide)), fun h => f4 (updL_ne h (by decide)), fun h => f5 (updL_ne h (by decide)), fun h => f6 (updL_ne h (by decide)), fun h => f7 (updL_ne h (by decide)), fun h => f8 (updL_ne h (by decide)), fun _ => rfl, fun h => absurd (updL_ne h (by decide)) (by rw [h10]; decide), fun h => f11 (updL_ne h (by decide))⟩⟩
    case s10 =>
      intro l a' w' hk hpre hJ K hK
      obtain ⟨x0, x1, x2, x3, x4, x5, x6, x7, x8, x9, x10, x11, x12, ha, hall, hfin, hfs⟩ := hJ
      have h12 : l 12 = false := upd_last hall hk (by decide)
      clear hall hfin
      obtain ⟨hA, hE, hF, f0, f1, f2, f3, f4, f5, f6, f7, f8, f9, f10, f11⟩ := hfs h12
      clear hfs
      have p4 : l 4 = true := hpre 4 (by kernel_rfl)
      have p9 : l 9 = true := hpre 9 (by kernel_rfl)
      obtain rfl := f4 p4
      obtain rfl := f9 p9

      subst ha
      go_simp
      exact hK.out _ _ ⟨x0, x1, x2, x3, .int .i64 (cmpI x.pos y.pos), x5, x6, x7, x8, .int .i64 (cmpB x.name.data.toList y.name.data.toList), .slice (some ⟨w'.heap.size, 0, none⟩) 2 2, x11, x12, by kernel_rfl, fun h => absurd (updL_ne h (by decide)) (by rw [h12]; decide), fun h => absurd (updL_ne h (by decide)) (by rw [h12]; decide), fun _ => ⟨fun _ => deep_all hpre (by kernel_rfl) _, fun h => absurd h (by rw [updL_self]; decide), fun _ => hide (by rw [(hE hk).out]), fun h => f0 (updL_ne h (by decide)), fun h => f1 (updL_ne h (by decide)), fun h => f2 (updL_ne h (by decide)), fun h => f3 (updL_ne h (by decide)), fun h => f4 (updL_ne h (by decide)), fun h => f5 (updL_ne h (by decide)), fun h => f6 (updL_ne h (by decide)), fun h => f7 (updL_ne h (by decide)), fun h => f8 (updL_ne h (by decide)), fun h => f9 (updL_ne h (by decide)), fun _ => ⟨_, rfl, heap_alloc_new w' _⟩, fun h => f11 (updL_ne h (by decide))⟩⟩
    case s11 =>
      intro l a' w' hk hpre hJ K hK
      obtain ⟨x0, x1, x2, x3, x4, x5, x6, x7, x8, x9, x10, x11, x12, ha, hall, hfin, hfs⟩ := hJ
      have h12 : l 12 = false := upd_last hall hk (by decide)
      clear hall hfin
      obtain ⟨hA, hE, hF, f0, f1, f2, f3, f4, f5, f6, f7, f8, f9, f10, f11⟩ := hfs h12
      clear hfs
      have p10 : l 10 = true := hpre 10 (by kernel_rfl)
      obtain ⟨g, rfl, hg⟩ := f10 p10
      replace hA := hide hA
      subst ha
      go_simp
      go_at_call 93
      refine Calls.mono (t_Or _ _ g _ _ hg) ?_
      rintro en w2 ⟨he, hw2⟩
      obtain rfl : en = .returned (.int .i64 (cmpO x y)) := he
      obtain rfl := hw2.symm
      exact hK.out _ _ ⟨x0, x1, x2, x3, x4, x5, x6, x7, x8, x9, .slice (some ⟨g, 0, none⟩) 2 2, .int .i64 (cmpO x y), x12, by kernel_rfl, fun h => absurd (updL_ne h (by decide)) (by rw [h12]; decide), fun h => absurd (updL_ne h (by decide)) (by rw [h12]; decide), fun _ => ⟨updL_all hA.out (by decide), fun h => hE (updL_f h), fun h => hF (updL_ne h (by decide)), fun h => f0 (updL_ne h (by decide)), fun h => f1 (updL_ne h (by decide)), fun h => f2 (updL_ne h (by decide)), fun h => f3 (updL_ne h (by decide)), fun h => f4 (updL_ne h (by decide)), fun h => f5 (updL_ne h (by decide)), fun h => f6 (updL_ne h (by decide)), fun h => f7 (updL_ne h (by decide)), fun h => f8 (updL_ne h (by decide)), fun h => f9 (updL_ne h (by decide)), fun h => (f10 (updL_ne h (by decide))), fun _ => rfl⟩⟩
    case s12 =>
      intro l a' w' hk hpre hJ K hK
      obtain ⟨x0, x1, x2, x3, x4, x5, x6, x7, x8, x9, x10, x11, x12, ha, hall, hfin, hfs⟩ := hJ
      have h12 : l 12 = false := hk
      clear hall hfin
      obtain ⟨hA, hE, hF, f0, f1, f2, f3, f4, f5, f6, f7, f8, f9, f10, f11⟩ := hfs h12
      clear hfs
      have p10 : l 10 = true := hpre 10 (by kernel_rfl)
      have p11 : l 11 = true := hpre 11 (by kernel_rfl)
      have hF1 := hF p10
      clear hA hE hF
      obtain rfl := f11 p11

      subst ha
      go_simp
      exact hK.out _ _ ⟨x0, x1, x2, x3, x4, x5, x6, x7, x8, x9, x10, .int .i64 (cmpO x y), .int .i64 (cmpO x y), by kernel_rfl, fun _ => deep_all hpre (by kernel_rfl) _, fun _ => ⟨rfl, hF1.out⟩, fun h => absurd h (by simp [updL])⟩
  case hend =>
    intro l a' w' hl hJ
    obtain ⟨x0, x1, x2, x3, x4, x5, x6, x7, x8, x9, x10, x11, x12, ha, _, hfin, _⟩ := hJ
    simp [go_sem] at ha
    subst ha
    replace hfin := hfin (hl 12 (by decide))
    clear hl
    obtain ⟨rfl, rfl⟩ := hfin
    go_wp2_with fail
    go_ret
    refine ⟨rfl, 1, #[.cells #[.int .i64 x.pos, .string x.name] 65, .cells #[.int .i64 y.pos, .string y.name] 65, .cells #[.int .i64 (cmpI x.pos y.pos), .int .i64 (cmpB x.name.data.toList y.name.data.toList)] 3], ?_⟩
    rw [Hv.out]
    change ((w.drew.alloc _).alloc _).alloc _ = _
    rw [Sort.alloc_eq_grow, Sort.alloc_eq_grow, Sort.alloc_eq_grow, Sort.grow_grow, Sort.grow_grow]
    rfl
end Go.Proofs.Ytaihdnlpdibkoaa
