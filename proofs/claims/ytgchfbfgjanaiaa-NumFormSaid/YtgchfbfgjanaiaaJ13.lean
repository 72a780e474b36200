/- slices.SortFunc of places (PartitionEqual1): after the kit's walk at a comparison that turns nothing -/
import Derived.Test.YtgchfbfgjanaiaaJ07
import Derived.Shelf.SlSortFuncK.PartitionK
import Derived.Sort.WalkC4
import Derived.Sort.WalkB2
import Derived.Sort.WalkB12
import Derived.Deep.LoopGhost
set_option linter.unusedSimpArgs false
set_option linter.unusedVariables false
namespace Go.Proofs.Ytgchfbfgjanaiaa
open Go.RowKit Go.Lib Go.Sort Sr
variable {X : SC}
set_option maxHeartbeats 32000000 in
set_option maxRecDepth 1000000 in
theorem partitionEqualCmpFunc_x (a b pivot : Nat) (d : Array Nat) (w : World)
    (S : SX X d w) (hap : a ≤ pivot) (hpb : pivot < b) (hb : b ≤ d.size) (hsz : d.size < 4611686018427387904) :
    Calls Try.prog 114 #[.slice (some ⟨X.blk, 0, none⟩) d.size X.cap, .int .i64 a, .int .i64 b, .int .i64 pivot, .func (.func 78) #[.pointer (some ⟨X.b.p, 0, none⟩)] #[]] w fun e w' =>
      e = .returned (.int .i64 (Sort.partitionEqual (ltOf X.cf) d a b pivot).1) ∧ SX X (Sort.partitionEqual (ltOf X.cf) d a b pivot).2 w' := by
  have hcl0 := oneN.cells
  simp only [Value.cells] at hcl0
  have hst := oneN.store Try.prog
  have S0 : Aside (SX X d w) := S
  clear S
  go_enter Try.func114, Try.ntmps114
  go_wp2_with fail
  obtain ⟨iN1215, hiN1215⟩ : ∃ q, q = a := ⟨_, rfl⟩
  obtain ⟨jN1215, hjN1215⟩ : ∃ q, q = pivot := ⟨_, rfl⟩
  have ea1215 : ((a : Int)).toNat = iN1215 := by omega
  have pa1215 : (0 : Int) ≤ (a : Int) := by omega
  have ba1215 : (a : Int) < (d.size : Int) := by omega
  have ra1215 : IntKind.i64.wrap ((a : Int)) = (a : Int) := by rw [IntKind.wrap_i64]; omega
  have ec1215 : ((pivot : Int)).toNat = jN1215 := by omega
  have pc1215 : (0 : Int) ≤ (pivot : Int) := by omega
  have bc1215 : (pivot : Int) < (d.size : Int) := by omega
  have rc1215 : IntKind.i64.wrap ((pivot : Int)) = (pivot : Int) := by rw [IntKind.wrap_i64]; omega
  obtain ⟨x1215, hx1215⟩ : ∃ x, x = d[a]! := ⟨_, rfl⟩
  obtain ⟨y1215, hy1215⟩ : ∃ x, x = d[pivot]! := ⟨_, rfl⟩
  have S1 : Aside (SX X (swp d (a) (pivot)) ((w.setCell ⟨X.blk, iN1215, none⟩ (encN y1215)).setCell ⟨X.blk, jN1215, none⟩ (encN x1215)).drew) := by rw [hiN1215, hjN1215, hx1215, hy1215]; exact S0.out.swapped (a) (pivot) (by omega) (by omega)
  have c1215a := S0.out.c1 (a) (by omega)
  have c1215b := S0.out.c1 (pivot) (by omega)
  have f1215a := S0.out.f1 (a) (by omega)
  have f1215b := S0.out.f1 (pivot) (by omega)
  obtain ⟨u1215, c1215c⟩ := S0.out.c2 (a) (pivot) (by omega) (by omega) (encN y1215)
  rw [← hjN1215, ← hiN1215] at c1215c
  rw [← hx1215, ← hiN1215] at c1215a
  rw [← hy1215, ← hjN1215] at c1215b
  rw [← hiN1215] at f1215a
  rw [← hjN1215] at f1215b
  clear S0 hx1215 hy1215 hiN1215 hjN1215
  go_wp2_with fail
  go_region
  clear c1215a c1215b c1215c f1215a f1215b
  generalize ((w.setCell ⟨X.blk, iN1215, none⟩ (encN y1215)).setCell ⟨X.blk, jN1215, none⟩ (encN x1215)).drew = w1 at S1 ⊢
  clear ea1215 ec1215
  go_wp2
  -- THE 'for {'
  go_loopw [11, 12] (fun vi vj wr => ∃ (i j : Nat) (dk : Array Nat), vi = .int .i64 i ∧ vj = .int .i64 j ∧ a < i ∧ i ≤ j + 1 ∧ j < b ∧ dk.size = d.size ∧ Aside (SX X dk wr) ∧
      Sort.partEqLoop (ltOf X.cf) a i j dk = Sort.partEqLoop (ltOf X.cf) a (a + 1) (b - 1) (Sort.swp d a pivot))
    (fun vi vj _ => (intOf vj).toNat + 1 - (intOf vi).toNat)
  case atStart => exact ⟨a + 1, b - 1, Sort.swp d a pivot, by go_num, by go_num, by omega, by omega, by omega, size_swp _ _ _, S1, rfl⟩
  case round =>
    clear S1
    obtain ⟨i, j, dk, rfl, rfl, hai, hij, hjb, hs', S1, heq⟩ := hrel
    have AE : Hid (Sort.partEqLoop (ltOf X.cf) a i j dk = Sort.partEqLoop (ltOf X.cf) a (a + 1) (b - 1) (Sort.swp d a pivot)) := heq
    clear heq
    go_wp2
    -- THE UPWARD SCAN
    go_loopw [11] (fun vi w1 => ∃ (i' : Nat), vi = .int .i64 i' ∧ i ≤ i' ∧ i' ≤ j + 1 ∧ Aside (SX X dk w1) ∧
        Hid (Sort.scanUp (fun x => !(ltOf X.cf) dk[a]! x) dk j i' = Sort.scanUp (fun x => !(ltOf X.cf) dk[a]! x) dk j i))
      (fun vi _ => j + 1 - (intOf vi).toNat)
    case atStart => exact ⟨i, rfl, Nat.le_refl _, hij, S1, rfl⟩
    case round =>
      clear S1
      obtain ⟨i', rfl, hii, hij', SU, hsc⟩ := hrel
      by_cases hle : i' ≤ j
      · have hgu : decide ((i' : Int) ≤ (j : Int)) = true := decide_eq_true (by omega)
        cases hlv : (ltOf X.cf) dk[a]! dk[i']! with
        | false =>
          -- it goes on: i++
          obtain ⟨iN1216, hiN1216⟩ : ∃ q, q = a := ⟨_, rfl⟩
          obtain ⟨jN1216, hjN1216⟩ : ∃ q, q = i' := ⟨_, rfl⟩
          have ea1216 : ((a : Int)).toNat = iN1216 := by omega
          have pa1216 : (0 : Int) ≤ (a : Int) := by omega
          have ba1216 : (a : Int) < (d.size : Int) := by omega
          have ra1216 : IntKind.i64.wrap ((a : Int)) = (a : Int) := by rw [IntKind.wrap_i64]; omega
          have ec1216 : ((i' : Int)).toNat = jN1216 := by omega
          have pc1216 : (0 : Int) ≤ (i' : Int) := by omega
          have bc1216 : (i' : Int) < (d.size : Int) := by omega
          have rc1216 : IntKind.i64.wrap ((i' : Int)) = (i' : Int) := by rw [IntKind.wrap_i64]; omega
          obtain ⟨x1216, hx1216⟩ : ∃ x, x = dk[a]! := ⟨_, rfl⟩
          obtain ⟨y1216, hy1216⟩ : ∃ x, x = dk[i']! := ⟨_, rfl⟩
          have l1216a := SU.out.drew.c1 (a) (by omega)
          have l1216b := SU.out.drew.c1 (i') (by omega)
          rw [← hx1216, ← hiN1216] at l1216a
          rw [← hy1216, ← hjN1216] at l1216b
          have hc1216 := SU.out.drew.cmp (a) (i') (by omega) (by omega)
          rw [← hx1216, ← hy1216] at hc1216
          have hv1216 : ¬ X.cf x1216 y1216 < 0 := by rw [hx1216, hy1216]; exact of_decide_eq_false hlv
          have hd1216 : decide (X.cf x1216 y1216 < 0) = false := decide_eq_false hv1216
          clear hx1216 hy1216 hiN1216 hjN1216
          go_wp2_with fail
          (refine wp_region_still_tail 13 (by kernel_rfl) (by kernel_rfl) ?_; simp only [List.take_succ_cons, List.take_zero, List.drop_succ_cons, List.drop_zero]; (repeat still_step); refine wpStill_nil ?_)
          change wpList _ _ _ _ _ wr.drew
          refine wpList_gen fun Qq hQq => ?_
          go_wp2_with (go_at_call 78; go_must (refine hc1216.mono ?_; rintro e1q wu2 ⟨rfl, S2q, E2q⟩; have SU2 : Aside (SX X dk wu2) := S2q; clear l1216a l1216b hc1216 SU ea1216 ec1216 S2q E2q))
          obtain rfl := hQq.out
          clear hQq
          go_wp2
          go_roundw
          case rel => exact ⟨i' + 1, by go_num, by omega, by omega, SU2, (scanUp_go (fun x => !(ltOf X.cf) dk[a]! x) dk j i' hle (by simp [hlv])).symm.trans hsc.out⟩
          case measure => simp [intOf]; omega
        | true =>
          -- it stops: the test has failed
          have hi2 : Hid (i' = Sort.scanUp (fun x => !(ltOf X.cf) dk[a]! x) dk j i) := (scanUp_end (fun x => !(ltOf X.cf) dk[a]! x) dk j i' (Or.inr (by simp [hlv]))).symm.trans hsc.out
          clear hsc
          obtain ⟨iN1217, hiN1217⟩ : ∃ q, q = a := ⟨_, rfl⟩
          obtain ⟨jN1217, hjN1217⟩ : ∃ q, q = i' := ⟨_, rfl⟩
          have ea1217 : ((a : Int)).toNat = iN1217 := by omega
          have pa1217 : (0 : Int) ≤ (a : Int) := by omega
          have ba1217 : (a : Int) < (d.size : Int) := by omega
          have ra1217 : IntKind.i64.wrap ((a : Int)) = (a : Int) := by rw [IntKind.wrap_i64]; omega
          have ec1217 : ((i' : Int)).toNat = jN1217 := by omega
          have pc1217 : (0 : Int) ≤ (i' : Int) := by omega
          have bc1217 : (i' : Int) < (d.size : Int) := by omega
          have rc1217 : IntKind.i64.wrap ((i' : Int)) = (i' : Int) := by rw [IntKind.wrap_i64]; omega
          obtain ⟨x1217, hx1217⟩ : ∃ x, x = dk[a]! := ⟨_, rfl⟩
          obtain ⟨y1217, hy1217⟩ : ∃ x, x = dk[i']! := ⟨_, rfl⟩
          have l1217a := SU.out.drew.c1 (a) (by omega)
          have l1217b := SU.out.drew.c1 (i') (by omega)
          rw [← hx1217, ← hiN1217] at l1217a
          rw [← hy1217, ← hjN1217] at l1217b
          have hc1217 := SU.out.drew.cmp (a) (i') (by omega) (by omega)
          rw [← hx1217, ← hy1217] at hc1217
          have hv1217 : X.cf x1217 y1217 < 0 := by rw [hx1217, hy1217]; exact of_decide_eq_true hlv
          have hd1217 : decide (X.cf x1217 y1217 < 0) = true := decide_eq_true hv1217
          clear hx1217 hy1217 hiN1217 hjN1217
          go_wp2_with fail
          (refine wp_region_still_tail 13 (by kernel_rfl) (by kernel_rfl) ?_; simp only [List.take_succ_cons, List.take_zero, List.drop_succ_cons, List.drop_zero]; (repeat still_step); refine wpStill_nil ?_)
          change wpList _ _ _ _ _ wr.drew
          refine wpList_gen fun Qq hQq => ?_
          go_wp2_with (go_at_call 78; go_must (refine hc1217.mono ?_; rintro e1q wu2 ⟨rfl, S2q, E2q⟩; have SU2 : Aside (SX X dk wu2) := S2q; clear l1217a l1217b hc1217 SU ea1217 ec1217 S2q E2q))
          obtain rfl := hQq.out
          clear hQq
          go_wp2
          -- THE DOWNWARD SCAN
          go_loopw [12] (fun vj w2 => ∃ (j' : Nat), vj = .int .i64 j' ∧ j' ≤ j ∧ i' ≤ j' + 1 ∧ Aside (SX X dk w2) ∧
              Hid (Sort.scanDown (fun x => (ltOf X.cf) dk[a]! x) dk i' j' = Sort.scanDown (fun x => (ltOf X.cf) dk[a]! x) dk i' j))
            (fun vj _ => (intOf vj).toNat)
          case atStart => exact ⟨j, rfl, Nat.le_refl _, hij', SU2, rfl⟩
          case round =>
            clear SU2
            obtain ⟨j', rfl, hjj, hij2, SD, hsd⟩ := hrel
            by_cases hle2 : i' ≤ j'
            · have hgd : decide ((i' : Int) ≤ (j' : Int)) = true := decide_eq_true (by omega)
              cases hlv2 : (ltOf X.cf) dk[a]! dk[j']! with
              | true =>
                -- it goes on: j--
                obtain ⟨iN1218, hiN1218⟩ : ∃ q, q = a := ⟨_, rfl⟩
                obtain ⟨jN1218, hjN1218⟩ : ∃ q, q = j' := ⟨_, rfl⟩
                have ea1218 : ((a : Int)).toNat = iN1218 := by omega
                have pa1218 : (0 : Int) ≤ (a : Int) := by omega
                have ba1218 : (a : Int) < (d.size : Int) := by omega
                have ra1218 : IntKind.i64.wrap ((a : Int)) = (a : Int) := by rw [IntKind.wrap_i64]; omega
                have ec1218 : ((j' : Int)).toNat = jN1218 := by omega
                have pc1218 : (0 : Int) ≤ (j' : Int) := by omega
                have bc1218 : (j' : Int) < (d.size : Int) := by omega
                have rc1218 : IntKind.i64.wrap ((j' : Int)) = (j' : Int) := by rw [IntKind.wrap_i64]; omega
                obtain ⟨x1218, hx1218⟩ : ∃ x, x = dk[a]! := ⟨_, rfl⟩
                obtain ⟨y1218, hy1218⟩ : ∃ x, x = dk[j']! := ⟨_, rfl⟩
                have l1218a := SD.out.drew.c1 (a) (by omega)
                have l1218b := SD.out.drew.c1 (j') (by omega)
                rw [← hx1218, ← hiN1218] at l1218a
                rw [← hy1218, ← hjN1218] at l1218b
                have hc1218 := SD.out.drew.cmp (a) (j') (by omega) (by omega)
                rw [← hx1218, ← hy1218] at hc1218
                have hv1218 : X.cf x1218 y1218 < 0 := by rw [hx1218, hy1218]; exact of_decide_eq_true hlv2
                have hd1218 : decide (X.cf x1218 y1218 < 0) = true := decide_eq_true hv1218
                clear hx1218 hy1218 hiN1218 hjN1218
                go_wp2_with fail
                (refine wp_region_still_tail 13 (by kernel_rfl) (by kernel_rfl) ?_; simp only [List.take_succ_cons, List.take_zero, List.drop_succ_cons, List.drop_zero]; (repeat still_step); refine wpStill_nil ?_)
                change wpList _ _ _ _ _ wr.drew
                refine wpList_gen fun Qq hQq => ?_
                go_wp2_with (go_at_call 78; go_must (refine hc1218.mono ?_; rintro e1q wd2 ⟨rfl, S2q, E2q⟩; have SD2 : Aside (SX X dk wd2) := S2q; clear l1218a l1218b hc1218 SD ea1218 ec1218 S2q E2q))
                obtain rfl := hQq.out
                clear hQq
                go_wp2
                go_roundw
                case rel => exact ⟨j' - 1, by go_num, by omega, by omega, SD2, (scanDown_go (fun x => (ltOf X.cf) dk[a]! x) dk i' j' hle2 (by omega) hlv2).symm.trans hsd.out⟩
                case measure => simp [intOf]; omega
              | false =>
                -- it stops: the exchange; i++; j--
                have hj2 : Hid (j' = Sort.scanDown (fun x => (ltOf X.cf) dk[a]! x) dk i' j) := (scanDown_end (fun x => (ltOf X.cf) dk[a]! x) dk i' j' (Or.inr hlv2)).symm.trans hsd.out
                have hlt3 := scans_lt (ltOf X.cf) a i j dk (by omega) hi2.out hj2.out hle2
                clear hsd
                obtain ⟨iN1219, hiN1219⟩ : ∃ q, q = a := ⟨_, rfl⟩
                obtain ⟨jN1219, hjN1219⟩ : ∃ q, q = j' := ⟨_, rfl⟩
                have ea1219 : ((a : Int)).toNat = iN1219 := by omega
                have pa1219 : (0 : Int) ≤ (a : Int) := by omega
                have ba1219 : (a : Int) < (d.size : Int) := by omega
                have ra1219 : IntKind.i64.wrap ((a : Int)) = (a : Int) := by rw [IntKind.wrap_i64]; omega
                have ec1219 : ((j' : Int)).toNat = jN1219 := by omega
                have pc1219 : (0 : Int) ≤ (j' : Int) := by omega
                have bc1219 : (j' : Int) < (d.size : Int) := by omega
                have rc1219 : IntKind.i64.wrap ((j' : Int)) = (j' : Int) := by rw [IntKind.wrap_i64]; omega
                obtain ⟨x1219, hx1219⟩ : ∃ x, x = dk[a]! := ⟨_, rfl⟩
                obtain ⟨y1219, hy1219⟩ : ∃ x, x = dk[j']! := ⟨_, rfl⟩
                have l1219a := SD.out.drew.c1 (a) (by omega)
                have l1219b := SD.out.drew.c1 (j') (by omega)
                rw [← hx1219, ← hiN1219] at l1219a
                rw [← hy1219, ← hjN1219] at l1219b
                have hc1219 := SD.out.drew.cmp (a) (j') (by omega) (by omega)
                rw [← hx1219, ← hy1219] at hc1219
                have hv1219 : ¬ X.cf x1219 y1219 < 0 := by rw [hx1219, hy1219]; exact of_decide_eq_false hlv2
                have hd1219 : decide (X.cf x1219 y1219 < 0) = false := decide_eq_false hv1219
                clear hx1219 hy1219 hiN1219 hjN1219
                go_wp2_with fail
                (refine wp_region_still_tail 13 (by kernel_rfl) (by kernel_rfl) ?_; simp only [List.take_succ_cons, List.take_zero, List.drop_succ_cons, List.drop_zero]; (repeat still_step); refine wpStill_nil ?_)
                change wpList _ _ _ _ _ wr.drew
                refine wpList_gen fun Qq hQq => ?_
                go_wp2_with (go_at_call 78; go_must (refine hc1219.mono ?_; rintro e1q wd2 ⟨rfl, S2q, E2q⟩; have SD2 : Aside (SX X dk wd2) := S2q; clear l1219a l1219b hc1219 SD ea1219 ec1219 S2q E2q))
                obtain rfl := hQq.out
                clear hQq
                go_wp2_with fail
                obtain ⟨iN1220, hiN1220⟩ : ∃ q, q = i' := ⟨_, rfl⟩
                obtain ⟨jN1220, hjN1220⟩ : ∃ q, q = j' := ⟨_, rfl⟩
                have ea1220 : ((i' : Int)).toNat = iN1220 := by omega
                have pa1220 : (0 : Int) ≤ (i' : Int) := by omega
                have ba1220 : (i' : Int) < (d.size : Int) := by omega
                have ra1220 : IntKind.i64.wrap ((i' : Int)) = (i' : Int) := by rw [IntKind.wrap_i64]; omega
                have ec1220 : ((j' : Int)).toNat = jN1220 := by omega
                have pc1220 : (0 : Int) ≤ (j' : Int) := by omega
                have bc1220 : (j' : Int) < (d.size : Int) := by omega
                have rc1220 : IntKind.i64.wrap ((j' : Int)) = (j' : Int) := by rw [IntKind.wrap_i64]; omega
                obtain ⟨x1220, hx1220⟩ : ∃ x, x = dk[i']! := ⟨_, rfl⟩
                obtain ⟨y1220, hy1220⟩ : ∃ x, x = dk[j']! := ⟨_, rfl⟩
                have SD3 : Aside (SX X (swp dk (i') (j')) ((wd2.setCell ⟨X.blk, iN1220, none⟩ (encN y1220)).setCell ⟨X.blk, jN1220, none⟩ (encN x1220)).drew) := by rw [hiN1220, hjN1220, hx1220, hy1220]; exact SD2.out.swapped (i') (j') (by omega) (by omega)
                have c1220a := SD2.out.c1 (i') (by omega)
                have c1220b := SD2.out.c1 (j') (by omega)
                have f1220a := SD2.out.f1 (i') (by omega)
                have f1220b := SD2.out.f1 (j') (by omega)
                obtain ⟨u1220, c1220c⟩ := SD2.out.c2 (i') (j') (by omega) (by omega) (encN y1220)
                rw [← hjN1220, ← hiN1220] at c1220c
                rw [← hx1220, ← hiN1220] at c1220a
                rw [← hy1220, ← hjN1220] at c1220b
                rw [← hiN1220] at f1220a
                rw [← hjN1220] at f1220b
                clear SD2 hx1220 hy1220 hiN1220 hjN1220
                go_wp2_with fail
                go_region
                clear c1220a c1220b c1220c f1220a f1220b
                generalize ((wd2.setCell ⟨X.blk, iN1220, none⟩ (encN y1220)).setCell ⟨X.blk, jN1220, none⟩ (encN x1220)).drew = wd3 at SD3 ⊢
                clear ea1220 ec1220
                go_wp2
                go_roundw
                case rel =>
                  refine ⟨i' + 1, j' - 1, Sort.swp dk i' j', by go_num, by go_num, by omega, by omega, by omega, by rw [size_swp]; exact hs', SD3, ?_⟩
                  rw [← AE.out]; exact (partEq_go (ltOf X.cf) a i j dk hi2.out hj2.out (by omega)).symm
                case measure => simp [intOf]; omega
            · -- it stops: i > j: break; return i (the guard is false: 'cmp' is not called)
              have hj2 : Hid (j' = Sort.scanDown (fun x => (ltOf X.cf) dk[a]! x) dk i' j) := (scanDown_end (fun x => (ltOf X.cf) dk[a]! x) dk i' j' (Or.inl hle2)).symm.trans hsd.out
              have hgd : decide ((i' : Int) ≤ (j' : Int)) = false := decide_eq_false (by omega)
              clear hsd
              go_wp2_with fail
              go_region
              have SD2 : Aside (SX X dk wr.drew) := SD.out.drew
              clear SD
              generalize wr.drew = wd2 at SD2 ⊢
              go_wp2
              go_ret
              have e := partEq_break (ltOf X.cf) a i j dk hi2.out hj2.out (by omega)
              refine ⟨?_, ?_⟩
              · unfold Sort.partitionEqual; rw [← AE.out, e]; rfl
              · unfold Sort.partitionEqual; rw [← AE.out, e]; exact SD2.out
      · -- it stops: i > j (the guard is false)
        have hi2 : Hid (i' = Sort.scanUp (fun x => !(ltOf X.cf) dk[a]! x) dk j i) := (scanUp_end (fun x => !(ltOf X.cf) dk[a]! x) dk j i' (Or.inl hle)).symm.trans hsc.out
        have hgu : decide ((i' : Int) ≤ (j : Int)) = false := decide_eq_false (by omega)
        clear hsc
        go_wp2_with fail
        go_region
        have SU2 : Aside (SX X dk wr.drew) := SU.out.drew
        clear SU
        generalize wr.drew = wu2 at SU2 ⊢
        go_wp2
        -- THE DOWNWARD SCAN
        go_loopw [12] (fun vj w2 => ∃ (j' : Nat), vj = .int .i64 j' ∧ j' ≤ j ∧ i' ≤ j' + 1 ∧ Aside (SX X dk w2) ∧
            Hid (Sort.scanDown (fun x => (ltOf X.cf) dk[a]! x) dk i' j' = Sort.scanDown (fun x => (ltOf X.cf) dk[a]! x) dk i' j))
          (fun vj _ => (intOf vj).toNat)
        case atStart => exact ⟨j, rfl, Nat.le_refl _, hij', SU2, rfl⟩
        case round =>
          clear SU2
          obtain ⟨j', rfl, hjj, hij2, SD, hsd⟩ := hrel
          by_cases hle2 : i' ≤ j'
          · exfalso; omega      -- the upward scan has run past j, and j' ≤ j
          · -- it stops: i > j: break; return i (the guard is false: 'cmp' is not called)
            have hj2 : Hid (j' = Sort.scanDown (fun x => (ltOf X.cf) dk[a]! x) dk i' j) := (scanDown_end (fun x => (ltOf X.cf) dk[a]! x) dk i' j' (Or.inl hle2)).symm.trans hsd.out
            have hgd : decide ((i' : Int) ≤ (j' : Int)) = false := decide_eq_false (by omega)
            clear hsd
            go_wp2_with fail
            go_region
            have SD2 : Aside (SX X dk wr.drew) := SD.out.drew
            clear SD
            generalize wr.drew = wd2 at SD2 ⊢
            go_wp2
            go_ret
            have e := partEq_break (ltOf X.cf) a i j dk hi2.out hj2.out (by omega)
            refine ⟨?_, ?_⟩
            · unfold Sort.partitionEqual; rw [← AE.out, e]; rfl
            · unfold Sort.partitionEqual; rw [← AE.out, e]; exact SD2.out
end Go.Proofs.Ytgchfbfgjanaiaa
