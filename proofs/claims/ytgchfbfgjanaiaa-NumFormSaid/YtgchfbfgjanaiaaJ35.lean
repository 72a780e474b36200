/- sandreckonerlaw01.awake -/
import Derived.Test.YtgchfbfgjanaiaaJ34
import Derived.Deep.DeepCutAuto
set_option linter.unusedSimpArgs false
set_option linter.unusedVariables false
namespace Go.Proofs.Ytgchfbfgjanaiaa
open Go.RowKit Sr
set_option maxRecDepth 100000 in
set_option maxHeartbeats 1000000 in
theorem awake1_any (w : World) : Calls Try.prog 15 #[] w fun e w' => e = .returned (.bool true) ∧ Below w.heap.size w w' := by
  obtain ⟨tw, htw, htw2, al2, al3, al4, hlt⟩ := towers
  have hof1 := fun w => ofI_one (n := 1) (by decide) (by decide) w
  have hof7 := fun w => ofI_one (n := 7) (by decide) (by decide) w
  have hof100 := fun w => ofI_one (n := 100) (by decide) (by decide) w
  rw [htw] at al2
  have HT := Sealed.mk (And.intro htw (And.intro htw2 (And.intro al2 (And.intro al3 (And.intro al4 hlt))))); clear htw htw2 al2 al3 al4 hlt
  go_enter Try.func15, Try.ntmps15
  go_upto_region 3 with (first
    | (go_at_call 21; go_must (first
      | ((with_reducible refine (hof7 _).mono ?_); rintro e w1 ⟨p1, rfl, hb1, hn1⟩; have H1 := Sealed.mk (And.intro hb1 hn1); clear hb1 hn1)
      | ((with_reducible refine (hof1 _).mono ?_); rintro e w2 ⟨p2, rfl, hb2, hn2⟩; have H2 := Sealed.mk (And.intro hb2 hn2); clear hb2 hn2)
      | ((with_reducible refine (hof100 _).mono ?_); rintro e w3 ⟨p3, rfl, hb3, hn3⟩; have H3 := Sealed.mk (And.intro hb3 hn3); clear hb3 hn3)))
    | (go_at_call 25; go_must (refine (shift_one (n := 100) (H2.out.2.below H3.out.1) H3.out.2 HT.out.2.2.1).mono ?_; rintro e w4 ⟨p4, rfl, hb4, hn4⟩; have H4 := Sealed.mk (And.intro hb4 hn4); clear hb4 hn4)))
  obtain ⟨W4, hW4⟩ : ∃ W4, W4 = w4.alloc (.cells #[.pointer p4] 30) := ⟨_, rfl⟩
  obtain ⟨k1, hk1⟩ : ∃ k1, k1 = w1.heap.size := ⟨_, rfl⟩
  obtain ⟨k2, hk2⟩ : ∃ k2, k2 = w4.heap.size := ⟨_, rfl⟩
  rw [← hW4, ← hk1, ← hk2]
  have N4 : NC W4 k1 p1 7 ∧ NC W4 k2 p4 (2 ^ 100) ∧ Below w.heap.size w W4 := by
    have b14 : Below (w1.alloc (.cells #[.pointer p1] 30)).heap.size (w1.alloc (.cells #[.pointer p1] 30)) W4 := by
      rw [hW4]
      exact below_chain (below_chain (below_chain H2.out.1 H3.out.1) H4.out.1) (below_new _ _)
    refine ⟨?_, ?_, below_chain (below_chain H1.out.1 (below_new _ _)) b14⟩
    · rw [hk1]; exact (NC.make H1.out.2).below b14
    · rw [hW4, hk2]; exact NC.make H4.out.2
  have S4 := Sealed.mk N4
  have cc2 : W4.drew.cell? ⟨k2, 0, none⟩ = some (.pointer p4) := N4.2.1.cell
  clear N4 H1 H2 H3 H4 hW4 hk1 hk2
  go_cut [4, 5] (fun v4 v5 wx => ∃ k4 p6, v4 = .pointer (some ⟨k4, 0, none⟩) ∧ v5 = .int .i64 0 ∧ Below W4.heap.size W4 wx ∧ NC wx k4 p6 (2 ^ tw))
  case first =>
    go_region_held3 (fun w' => w'.cell? ⟨k2, 0, none⟩ = some (.pointer p4))
      (first
        | exact cc2
        | exact (S4.out.2.1.below (below_chain (below_new W4 (.cells #[.pointer none] 30)) (below_drew _))).cell
        | exact (S4.out.2.1.below S5.out.1).cell
        | exact (S4.out.2.1.below (below_chain S5.out.1 (below_new _ _))).cell
        | exact (S4.out.2.1.below S6.out.1).cell
        | exact (S4.out.2.1.below (below_chain S6.out.1 (below_new _ _))).cell
        | exact (S4.out.2.1.below (below_chain S6.out.1 (below_set _ _ _))).cell
        | exact (S4.out.2.1.below (S6.out.1.setCell S5.out.1.size _)).cell
        | exact (S4.out.2.1.below (S6.out.1.setCell (Nat.le_refl _) _)).cell
        | fail)
      (first
        | (go_at_call 21; go_must (first
          | ((with_reducible refine (hof1 W4.drew).mono ?_); rintro e w5 ⟨p5, rfl, hb5, hn5⟩; have S5 := Sealed.mk (And.intro (below_chain (below_drew W4) hb5) hn5); clear hb5 hn5)
          | ((with_reducible refine (hof1 (W4.alloc (.cells #[.pointer none] 30)).drew).mono ?_); rintro e w5 ⟨p5, rfl, hb5, hn5⟩; have Z5 : Sealed (w5.heap[W4.heap.size]? = some (.cells #[.pointer none] 30 (0, 0))) := ⟨(hb5.block _ (lt_of_blk (blk_alloc W4 (.cells #[.pointer none] 30)))).trans (blk_alloc W4 (.cells #[.pointer none] 30))⟩; have S5 := Sealed.mk (And.intro (below_chain (below_chain (below_new W4 (.cells #[.pointer none] 30)) (below_drew _)) hb5) hn5); clear hb5 hn5)))
        | (go_at_call 25; go_must (first
          | (have z5 := Z5.out; (with_reducible refine (shift_one (n := tw) S5.out.2 (HT.out.1 ▸ (S4.out.2.1.below S5.out.1).num) HT.out.2.2.2.1).mono ?_); rintro e w6 ⟨p6, rfl, hb6, hn6⟩; have z6 := (hb6.block _ (lt_of_blk z5)).trans z5; have zc : w6.cell? ⟨W4.heap.size, 0, none⟩ = some (.pointer none) := (cell_of_blk z6 0).trans rfl; have zf : w6.frozen? ⟨W4.heap.size, 0, none⟩ = false := frozen_of_blk z6 0; have S6 := Sealed.mk (And.intro (below_chain S5.out.1 hb6) (And.intro hn6 z6)); clear hb6 hn6 z5 z6)
          | ((with_reducible refine (shift_one (w := w5) (n := tw) S5.out.2 (HT.out.1 ▸ (S4.out.2.1.below S5.out.1).num) HT.out.2.2.2.1).mono ?_); rintro e w6 ⟨p6, rfl, hb6, hn6⟩; have S6 := Sealed.mk (And.intro (below_chain S5.out.1 hb6) (And.intro hn6 trivial)); clear hb6 hn6)
          | ((with_reducible refine (shift_one (w := w5.alloc (.cells #[.pointer none] 30)) (n := tw) (S5.out.2.below (below_new _ _)) (HT.out.1 ▸ (S4.out.2.1.below (below_chain S5.out.1 (below_new _ _))).num) HT.out.2.2.2.1).mono ?_); rintro e w6 ⟨p6, rfl, hb6, hn6⟩; have z6 := (hb6.block _ (lt_of_blk (blk_alloc w5 (.cells #[.pointer none] 30)))).trans (blk_alloc w5 (.cells #[.pointer none] 30)); have zc : w6.cell? ⟨w5.heap.size, 0, none⟩ = some (.pointer none) := (cell_of_blk z6 0).trans rfl; have zf : w6.frozen? ⟨w5.heap.size, 0, none⟩ = false := frozen_of_blk z6 0; have S6 := Sealed.mk (And.intro (below_chain (below_chain S5.out.1 (below_new w5 (.cells #[.pointer none] 30))) hb6) (And.intro hn6 z6)); clear hb6 hn6 z6)
          | fail "none")))
    all_goals
      go_wp2_with fail
      go_meet
      case rel =>
        first
          | exact ⟨_, _, rfl, rfl, below_chain S6.out.1 (below_new _ _), NC.make S6.out.2.1⟩
          | exact ⟨_, _, rfl, rfl, S6.out.1.setCell S5.out.1.size _, NC.stored S6.out.2.2 S6.out.2.1⟩
          | exact ⟨_, _, rfl, rfl, S6.out.1.setCell (Nat.le_refl _) _, NC.stored S6.out.2.2 S6.out.2.1⟩
  case rest =>
    obtain ⟨k4, p6, rfl, rfl, b4, n4⟩ := hcut
    obtain ⟨W5, hW5⟩ : ∃ W5, W5 = wc := ⟨_, rfl⟩
    rw [← hW5] at b4 n4 ⊢
    clear hW5
    have cc4 : W5.drew.cell? ⟨k4, 0, none⟩ = some (.pointer p6) := n4.cell
    have T5 := Sealed.mk (And.intro (S4.out.1.below b4) (And.intro (S4.out.2.1.below b4) (And.intro n4 (below_chain S4.out.2.2 b4))))
    clear b4 n4 S4 cc2
    go_upto_region 4 with fail
    go_cut [6, 7] (fun v6 v7 wx => ∃ k6 p8, v6 = .pointer (some ⟨k6, 0, none⟩) ∧ v7 = .int .i64 0 ∧ Below W5.heap.size W5 wx ∧ NC wx k6 p8 (2 ^ tw + 1))
    case first =>
      go_region_held3 (fun w' => w'.cell? ⟨k4, 0, none⟩ = some (.pointer p6))
        (first
          | exact cc4
          | exact (T5.out.2.2.1.below (below_chain (below_new W5 (.cells #[.pointer none] 30)) (below_drew _))).cell
          | exact (T5.out.2.2.1.below S7.out.1).cell
          | exact (T5.out.2.2.1.below (below_chain S7.out.1 (below_new _ _))).cell
          | exact (T5.out.2.2.1.below S8.out.1).cell
          | exact (T5.out.2.2.1.below (below_chain S8.out.1 (below_new _ _))).cell
          | exact (T5.out.2.2.1.below (below_chain S8.out.1 (below_set _ _ _))).cell
          | exact (T5.out.2.2.1.below (S8.out.1.setCell S7.out.1.size _)).cell
          | exact (T5.out.2.2.1.below (S8.out.1.setCell (Nat.le_refl _) _)).cell
          | fail)
        (first
          | (go_at_call 21; go_must (first
            | ((with_reducible refine (hof1 W5.drew).mono ?_); rintro e w7 ⟨p7, rfl, hb5, hn5⟩; have S7 := Sealed.mk (And.intro (below_chain (below_drew W5) hb5) hn5); clear hb5 hn5)
            | ((with_reducible refine (hof1 (W5.alloc (.cells #[.pointer none] 30)).drew).mono ?_); rintro e w7 ⟨p7, rfl, hb5, hn5⟩; have Z7 : Sealed (w7.heap[W5.heap.size]? = some (.cells #[.pointer none] 30 (0, 0))) := ⟨(hb5.block _ (lt_of_blk (blk_alloc W5 (.cells #[.pointer none] 30)))).trans (blk_alloc W5 (.cells #[.pointer none] 30))⟩; have S7 := Sealed.mk (And.intro (below_chain (below_chain (below_new W5 (.cells #[.pointer none] 30)) (below_drew _)) hb5) hn5); clear hb5 hn5)))
          | (go_at_call 32; go_must (first
            | (have z5 := Z7.out; (with_reducible refine (Add_all (T5.out.2.2.1.below S7.out.1).num S7.out.2).mono ?_); rintro e w8 hao; obtain ⟨p8, rfl, hb6, hn6⟩ := hao.one HT.out.2.2.2.2.1; have z6 := (hb6.block _ (lt_of_blk z5)).trans z5; have zc : w8.cell? ⟨W5.heap.size, 0, none⟩ = some (.pointer none) := (cell_of_blk z6 0).trans rfl; have zf : w8.frozen? ⟨W5.heap.size, 0, none⟩ = false := frozen_of_blk z6 0; have S8 := Sealed.mk (And.intro (below_chain S7.out.1 hb6) (And.intro hn6 z6)); clear hb6 hn6 z5 z6)
            | ((with_reducible refine (Add_all (w := w7) (T5.out.2.2.1.below S7.out.1).num S7.out.2).mono ?_); rintro e w8 hao; obtain ⟨p8, rfl, hb6, hn6⟩ := hao.one HT.out.2.2.2.2.1; have S8 := Sealed.mk (And.intro (below_chain S7.out.1 hb6) (And.intro hn6 trivial)); clear hb6 hn6)
            | ((with_reducible refine (Add_all (w := w7.alloc (.cells #[.pointer none] 30)) (T5.out.2.2.1.below (below_chain S7.out.1 (below_new _ _))).num (S7.out.2.below (below_new _ _))).mono ?_); rintro e w8 hao; obtain ⟨p8, rfl, hb6, hn6⟩ := hao.one HT.out.2.2.2.2.1; have z6 := (hb6.block _ (lt_of_blk (blk_alloc w7 (.cells #[.pointer none] 30)))).trans (blk_alloc w7 (.cells #[.pointer none] 30)); have zc : w8.cell? ⟨w7.heap.size, 0, none⟩ = some (.pointer none) := (cell_of_blk z6 0).trans rfl; have zf : w8.frozen? ⟨w7.heap.size, 0, none⟩ = false := frozen_of_blk z6 0; have S8 := Sealed.mk (And.intro (below_chain (below_chain S7.out.1 (below_new w7 (.cells #[.pointer none] 30))) hb6) (And.intro hn6 z6)); clear hb6 hn6 z6)
            | fail "none")))
      all_goals
        go_wp2_with fail
        go_meet
        case rel =>
          first
            | exact ⟨_, _, rfl, rfl, below_chain S8.out.1 (below_new _ _), NC.make S8.out.2.1⟩
            | exact ⟨_, _, rfl, rfl, S8.out.1.setCell S7.out.1.size _, NC.stored S8.out.2.2 S8.out.2.1⟩
            | exact ⟨_, _, rfl, rfl, S8.out.1.setCell (Nat.le_refl _) _, NC.stored S8.out.2.2 S8.out.2.1⟩
    case rest =>
      obtain ⟨k6, p8, rfl, rfl, b6, n6⟩ := hcut
      obtain ⟨W7, hW7⟩ : ∃ W7, W7 = wc := ⟨_, rfl⟩
      rw [← hW7] at b6 n6 ⊢
      clear hW7
      have T7 := Sealed.mk (And.intro (T5.out.1.below b6) (And.intro (T5.out.2.1.below b6) (And.intro (T5.out.2.2.1.below b6) (And.intro n6 (below_chain T5.out.2.2.2 b6)))))
      clear b6 n6 T5 cc4
      have hof5 := fun w => ofI_one (n := 5) (by decide) (by decide) w
      have hof4 := fun w => ofI_one (n := 4) (by decide) (by decide) w
      go_upto_region 6 with (first
        | (go_at_call 21; go_must (first
          | ((with_reducible refine (hof5 _).mono ?_); rintro e w1 ⟨p9, rfl, hb1, hn1⟩; have S1 := Sealed.mk (And.intro hb1 hn1); clear hb1 hn1)
          | ((with_reducible refine (hof4 _).mono ?_); rintro e w2 ⟨p10, rfl, hb2, hn2⟩; have S2 := Sealed.mk (And.intro hb2 hn2); clear hb2 hn2)
          | fail))
        | (go_at_call 27; go_must (refine (sum_one (terms_two (S1.out.2.below S2.out.1) S2.out.2)).mono ?_; rintro e w3 ⟨p11, rfl, hb3, hn3⟩; have S3 := Sealed.mk (And.intro hb3 hn3); clear hb3 hn3)))
      obtain ⟨W8, hW8⟩ : ∃ W8, W8 = w3.alloc (.cells #[.pointer p11] 30) := ⟨_, rfl⟩
      obtain ⟨k8, hk8⟩ : ∃ k8, k8 = w3.heap.size := ⟨_, rfl⟩
      rw [← hW8, ← hk8]
      have T8 : Sealed (NC W8 k1 p1 7 ∧ NC W8 k2 p4 (2 ^ 100) ∧ NC W8 k4 p6 (2 ^ tw) ∧ NC W8 k6 p8 (2 ^ tw + 1) ∧ NC W8 k8 p11 16 ∧ Below w.heap.size w W8) := by
        have b : Below W7.heap.size W7 W8 := by
          rw [hW8]
          exact below_chain (below_chain (below_chain (below_chain S1.out.1 S2.out.1) (below_new _ _)) S3.out.1) (below_new _ _)
        exact ⟨T7.out.1.below b, T7.out.2.1.below b, T7.out.2.2.1.below b, T7.out.2.2.2.1.below b, by rw [hW8, hk8]; exact NC.make S3.out.2, below_chain T7.out.2.2.2.2 b⟩
      clear hW8 hk8 S1 S2 S3 T7
      have hof3 := fun w => ofI_one (n := 3) (by decide) (by decide) w
      go_upto_region 7 with (first
        | (go_at_call 21; go_must (first
          | ((with_reducible refine (hof3 _).mono ?_); rintro e w1 ⟨p12, rfl, hb1, hn1⟩; have S1 := Sealed.mk (And.intro hb1 hn1); clear hb1 hn1)
          | ((with_reducible refine (hof5 _).mono ?_); rintro e w2 ⟨p13, rfl, hb2, hn2⟩; have S2 := Sealed.mk (And.intro hb2 hn2); clear hb2 hn2)
          | fail))
        | (go_at_call 34; go_must (refine (mul_one' (S1.out.2.below S2.out.1) S2.out.2).mono ?_; rintro e w3 ⟨p14, rfl, hb3, hn3⟩; have S3 := Sealed.mk (And.intro hb3 hn3); clear hb3 hn3)))
      obtain ⟨W9, hW9⟩ : ∃ W9, W9 = w3.alloc (.cells #[.pointer p14] 30) := ⟨_, rfl⟩
      obtain ⟨k10, hk10⟩ : ∃ k10, k10 = w3.heap.size := ⟨_, rfl⟩
      rw [← hW9, ← hk10]
      have T9 : Sealed (NC W9 k1 p1 7 ∧ NC W9 k2 p4 (2 ^ 100) ∧ NC W9 k4 p6 (2 ^ tw) ∧ NC W9 k6 p8 (2 ^ tw + 1) ∧ NC W9 k8 p11 16 ∧ NC W9 k10 p14 15 ∧ Below w.heap.size w W9) := by
        have b : Below W8.heap.size W8 W9 := by
          rw [hW9]
          exact below_chain (below_chain (below_chain S1.out.1 S2.out.1) S3.out.1) (below_new _ _)
        exact ⟨T8.out.1.below b, T8.out.2.1.below b, T8.out.2.2.1.below b, T8.out.2.2.2.1.below b, T8.out.2.2.2.2.1.below b, by rw [hW9, hk10]; exact NC.make S3.out.2, below_chain T8.out.2.2.2.2.2 b⟩
      clear hW9 hk10 S1 S2 S3 T8
      have c1w : W9.cell? ⟨k1, 0, none⟩ = some (.pointer p1) := T9.out.1.cell
      have c10w : W9.cell? ⟨k10, 0, none⟩ = some (.pointer p14) := T9.out.2.2.2.2.2.1.cell
      have al7 : Allowed 7 := allowed_small (by decide)
      have hi15 : ∀ W, NumIs W (.agg #[.pointer p14]) 15 → Calls Try.prog 47 #[.agg #[.pointer p14]] W fun e w' => e = .returned (.tuple #[.int .i64 15, .bool true]) ∧ Below W.heap.size W w' := fun W h => (Int_any h).mono fun e w' h => ⟨by rw [h.1]; rfl, h.2⟩
      have HI := Sealed.mk hi15; clear hi15
      go_upto_region 11 with (first
        | (go_at_call 47; go_must (refine (HI.out _ T9.out.2.2.2.2.2.1.num).mono ?_; rintro e w1 ⟨rfl, hb1⟩; have c1' : w1.cell? ⟨k1, 0, none⟩ = some (.pointer p1) := (T9.out.1.below hb1).cell; have S1 := Sealed.mk hb1; clear hb1))
        | (go_at_call 23; go_must (refine (Bytes_any (T9.out.1.below S1.out).num).mono ?_; rintro e w2 ⟨ba, bc, rfl, ho2, hb2⟩; have S2 := Sealed.mk hb2; have SB := Sealed.mk (BytesAt.of_own ho2 (bytesN_range al7) (Nat.le_trans (bytesN_length al7) (by decide))); clear ho2 hb2))
        | (go_at_call 18; go_must (refine (load_one al7 SB.out).mono ?_; rintro e w3 ⟨p16, rfl, hb3, hn3⟩; have S3 := Sealed.mk (And.intro hb3 hn3); clear hb3 hn3)))
      obtain ⟨WA, hWA⟩ : ∃ WA, WA = w3.alloc (.cells #[.pointer p16] 30) := ⟨_, rfl⟩
      obtain ⟨k14, hk14⟩ : ∃ k14, k14 = w3.heap.size := ⟨_, rfl⟩
      rw [← hWA, ← hk14]
      have TA : Sealed (NC WA k1 p1 7 ∧ NC WA k2 p4 (2 ^ 100) ∧ NC WA k4 p6 (2 ^ tw) ∧ NC WA k6 p8 (2 ^ tw + 1) ∧ NC WA k8 p11 16 ∧ NC WA k14 p16 7 ∧ Below w.heap.size w WA) := by
        have b : Below W9.heap.size W9 WA := by
          rw [hWA]
          exact below_chain (below_chain (below_chain S1.out S2.out) S3.out.1) (below_new _ _)
        exact ⟨T9.out.1.below b, T9.out.2.1.below b, T9.out.2.2.1.below b, T9.out.2.2.2.1.below b, T9.out.2.2.2.2.1.below b, by rw [hWA, hk14]; exact NC.make S3.out.2, below_chain T9.out.2.2.2.2.2.2 b⟩
      clear hWA hk14 S1 S2 S3 SB T9 c1w c10w c1'
      have hks : ∀ W, Below WA.heap.size WA W → W.cell? ⟨k1, 0, none⟩ = some (.pointer p1) ∧ W.cell? ⟨k2, 0, none⟩ = some (.pointer p4) ∧ W.cell? ⟨k4, 0, none⟩ = some (.pointer p6) ∧ W.cell? ⟨k6, 0, none⟩ = some (.pointer p8) ∧ W.cell? ⟨k8, 0, none⟩ = some (.pointer p11) ∧ W.cell? ⟨k14, 0, none⟩ = some (.pointer p16) := fun W b =>
        ⟨(TA.out.1.below b).cell, (TA.out.2.1.below b).cell, (TA.out.2.2.1.below b).cell, (TA.out.2.2.2.1.below b).cell, (TA.out.2.2.2.2.1.below b).cell, (TA.out.2.2.2.2.2.1.below b).cell⟩
      have hby : ∀ W, Below WA.heap.size WA W → Calls Try.prog 23 #[.agg #[.pointer p1]] W fun e w' => ∃ a c, e = .returned (.slice a 30 c) ∧ Below W.heap.size W w' := fun W b => (Bytes_any (TA.out.1.below b).num).mono fun e w' h => by
        obtain ⟨a, c, rfl, -, hb⟩ := h
        rw [bytes_7]
        exact ⟨a, c, rfl, hb⟩
      have hwe : ∀ W, Below WA.heap.size WA W → Calls Try.prog 44 #[.agg #[.pointer p1]] W fun e w' => e = .returned (.int .i64 5) ∧ Below W.heap.size W w' := fun W b => (Weight_any (TA.out.1.below b).num).mono fun e w' h => ⟨by rw [h.1, weight_7]; rfl, h.2⟩
      have hhe : ∀ W, Below WA.heap.size WA W → Calls Try.prog 43 #[.agg #[.pointer p1]] W fun e w' => e = .returned (.int .i64 4) ∧ Below W.heap.size W w' := fun W b => (Height_any (TA.out.1.below b).num).mono fun e w' h => ⟨by rw [h.1, height_7]; rfl, h.2⟩
      have hte : ∀ W, Below WA.heap.size WA W → Calls Try.prog 41 #[.agg #[.pointer p1]] W fun e w' => ∃ a c, e = .returned (.slice a 2 c) ∧ Below W.heap.size W w' := fun W b => (Terms_any (TA.out.1.below b).num).mono fun e w' h => by
        obtain ⟨a, c, ts, rfl, -, hb⟩ := h
        have : wl 7 = 2 := by unfold wl; rw [form_7]; rfl
        rw [this]
        exact ⟨a, c, rfl, hb⟩
      have hc1 : ∀ W, Below WA.heap.size WA W → Calls Try.prog 37 #[.agg #[.pointer p8], .agg #[.pointer p6]] W fun e w' => e = .returned (.int .i64 1) ∧ Below W.heap.size W w' := fun W b => (Cmp_any (TA.out.2.2.2.1.below b).num (TA.out.2.2.1.below b).num).mono fun e w' h => ⟨by rw [h.1, show (2 ^ tw + 1 - 2 ^ tw : Int) = 1 by omega]; rfl, h.2⟩
      have hc2 : ∀ W, Below WA.heap.size WA W → Calls Try.prog 37 #[.agg #[.pointer p6], .agg #[.pointer p4]] W fun e w' => e = .returned (.int .i64 1) ∧ Below W.heap.size W w' := fun W b => (Cmp_any (TA.out.2.2.1.below b).num (TA.out.2.1.below b).num).mono fun e w' h => ⟨by
        rw [h.1]
        have h1 := HT.out.2.2.2.2.2
        rw [HT.out.1] at h1
        unfold sg
        rw [if_neg (by omega), if_neg (by omega)], h.2⟩
      have hc3 : ∀ W p, Below WA.heap.size WA W → NumIs W (.agg #[.pointer p]) 16 → Calls Try.prog 37 #[.agg #[.pointer p11], .agg #[.pointer p]] W fun e w' => e = .returned (.int .i64 0) ∧ Below W.heap.size W w' := fun W p b hp => (Cmp_any (TA.out.2.2.2.2.1.below b).num hp).mono fun e w' h => ⟨by rw [h.1]; rfl, h.2⟩
      have hc4 : ∀ W, Below WA.heap.size WA W → Calls Try.prog 37 #[.agg #[.pointer p16], .agg #[.pointer p1]] W fun e w' => e = .returned (.int .i64 0) ∧ Below W.heap.size W w' := fun W b => (Cmp_any (TA.out.2.2.2.2.2.1.below b).num (TA.out.1.below b).num).mono fun e w' h => ⟨by rw [h.1]; rfl, h.2⟩
      have hng : ∀ W, Below WA.heap.size WA W → Calls Try.prog 39 #[.agg #[.pointer p1]] W fun e w' => ∃ p, e = .returned (.agg #[.pointer p]) ∧ Below W.heap.size W w' ∧ NumIs w' (.agg #[.pointer p]) (-7) := fun W b => (Neg_any (TA.out.1.below b).num).mono fun e w' h => by
        obtain ⟨r, rfl, hr, hb⟩ := h
        obtain ⟨p, rfl⟩ := hr.ptr
        exact ⟨p, rfl, hb, hr⟩
      have hsi : ∀ W p, NumIs W (.agg #[.pointer p]) (-7) → Calls Try.prog 42 #[.agg #[.pointer p]] W fun e w' => e = .returned (.int .i64 (-1)) ∧ Below W.heap.size W w' := fun W p h => (Sign_any h).mono fun e w' h => ⟨by rw [h.1]; rfl, h.2⟩
      have hof16 := fun w => ofI_one (n := 16) (by decide) (by decide) w
      have HKS := Sealed.mk hks; clear hks
      have HBY := Sealed.mk hby; clear hby
      have HWE := Sealed.mk hwe; clear hwe
      have HHE := Sealed.mk hhe; clear hhe
      have HTE := Sealed.mk hte; clear hte
      have HC1 := Sealed.mk hc1; clear hc1
      have HC2 := Sealed.mk hc2; clear hc2
      have HC3 := Sealed.mk hc3; clear hc3
      have HC4 := Sealed.mk hc4; clear hc4
      have HNG := Sealed.mk hng; clear hng
      have HSI := Sealed.mk hsi; clear hsi
      have HO6 := Sealed.mk hof16; clear hof16 hof1 hof3 hof4 hof5 hof7 hof100
      have HB := Sealed.mk (below_drew WA)
      go_region_held3 (fun W => W.cell? ⟨k1, 0, none⟩ = some (.pointer p1) ∧ W.cell? ⟨k2, 0, none⟩ = some (.pointer p4) ∧ W.cell? ⟨k4, 0, none⟩ = some (.pointer p6) ∧ W.cell? ⟨k6, 0, none⟩ = some (.pointer p8) ∧ W.cell? ⟨k8, 0, none⟩ = some (.pointer p11) ∧ W.cell? ⟨k14, 0, none⟩ = some (.pointer p16))
        (exact HKS.out _ HB.out)
        (first
          | (go_at_call 23; go_must ((with_reducible refine (HBY.out _ HB.out).mono ?_); rintro e v1 ⟨a1, c1, rfl, hb⟩; replace HB := Sealed.mk (below_chain HB.out hb); clear hb))
          | (go_at_call 44; go_must ((with_reducible refine (HWE.out _ HB.out).mono ?_); rintro e v2 ⟨rfl, hb⟩; replace HB := Sealed.mk (below_chain HB.out hb); clear hb))
          | (go_at_call 43; go_must ((with_reducible refine (HHE.out _ HB.out).mono ?_); rintro e v3 ⟨rfl, hb⟩; replace HB := Sealed.mk (below_chain HB.out hb); clear hb))
          | (go_at_call 41; go_must ((with_reducible refine (HTE.out _ HB.out).mono ?_); rintro e v4 ⟨a4, c4, rfl, hb⟩; replace HB := Sealed.mk (below_chain HB.out hb); clear hb))
          | (go_at_call 21; go_must ((with_reducible refine (HO6.out _).mono ?_); rintro e v5 ⟨p17, rfl, hb, hn⟩; replace HB := Sealed.mk (below_chain HB.out hb); have HN16 := Sealed.mk hn; clear hb hn))
          | (go_at_call 39; go_must ((with_reducible refine (HNG.out _ HB.out).mono ?_); rintro e v6 ⟨p18, rfl, hb, hn⟩; replace HB := Sealed.mk (below_chain HB.out hb); have HN7 := Sealed.mk hn; clear hb hn))
          | (go_at_call 42; go_must ((with_reducible refine (HSI.out _ _ HN7.out).mono ?_); rintro e v7 ⟨rfl, hb⟩; replace HB := Sealed.mk (below_chain HB.out hb); clear hb))
          | (go_at_call 37; go_must (first
            | ((with_reducible refine (HC1.out _ HB.out).mono ?_); rintro e v8 ⟨rfl, hb⟩; replace HB := Sealed.mk (below_chain HB.out hb); clear hb)
            | ((with_reducible refine (HC2.out _ HB.out).mono ?_); rintro e v9 ⟨rfl, hb⟩; replace HB := Sealed.mk (below_chain HB.out hb); clear hb)
            | ((with_reducible refine (HC4.out _ HB.out).mono ?_); rintro e v10 ⟨rfl, hb⟩; replace HB := Sealed.mk (below_chain HB.out hb); clear hb)
            | ((with_reducible refine (HC3.out _ _ HB.out HN16.out).mono ?_); rintro e v11 ⟨rfl, hb⟩; replace HB := Sealed.mk (below_chain HB.out hb); clear hb)
            | fail)))
      all_goals
        go_wp2_with fail
        go_ret
        exact ⟨rfl, below_chain TA.out.2.2.2.2.2.2 HB.out⟩
end Go.Proofs.Ytgchfbfgjanaiaa
