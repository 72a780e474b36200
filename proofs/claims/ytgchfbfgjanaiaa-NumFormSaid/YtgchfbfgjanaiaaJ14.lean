/- slices.SortFunc of places (Partition1): after the kit's walk at a comparison that turns nothing -/
import Derived.Test.YtgchfbfgjanaiaaJ07
import Derived.Shelf.SlSortFuncK.PartitionK
import Derived.Sort.WalkC4
import Derived.Sort.WalkB2
import Derived.Sort.WalkB12
import Derived.Deep.LoopGhost
set_option linter.unusedSimpArgs false
set_option linter.unusedVariables false
namespace Go.Proofs.Ytgchfbfgjanaiaa
open Go.RowKit Go.Lib Go.Sort Sr
variable {X : SC}
set_option maxHeartbeats 64000000 in
set_option maxRecDepth 1000000 in
theorem partitionCmpFunc_x (a b pivot : Nat) (d : Array Nat) (w : World)
    (S : SX X d w) (hap : a ≤ pivot) (hpb : pivot < b) (hb : b ≤ d.size) (hsz : d.size < 4611686018427387904) :
    Calls Try.prog 115 #[.slice (some ⟨X.blk, 0, none⟩) d.size X.cap, .int .i64 a, .int .i64 b, .int .i64 pivot, .func (.func 78) #[.pointer (some ⟨X.b.p, 0, none⟩)] #[]] w fun e w' =>
      e = .returned (.tuple #[.int .i64 (Sort.partition (ltOf X.cf) d a b pivot).1, .bool (Sort.partition (ltOf X.cf) d a b pivot).2.1]) ∧ SX X (Sort.partition (ltOf X.cf) d a b pivot).2.2 w' := by
  have hcl0 := oneN.cells
  simp only [Value.cells] at hcl0
  have hst := oneN.store Try.prog
  have S0 : Aside (SX X d w) := S
  clear S
  go_enter Try.func115, Try.ntmps115
  go_wp2_with fail
  obtain ⟨iN1235, hiN1235⟩ : ∃ q, q = a := ⟨_, rfl⟩
  obtain ⟨jN1235, hjN1235⟩ : ∃ q, q = pivot := ⟨_, rfl⟩
  have ea1235 : ((a : Int)).toNat = iN1235 := by omega
  have pa1235 : (0 : Int) ≤ (a : Int) := by omega
  have ba1235 : (a : Int) < (d.size : Int) := by omega
  have ra1235 : IntKind.i64.wrap ((a : Int)) = (a : Int) := by rw [IntKind.wrap_i64]; omega
  have ec1235 : ((pivot : Int)).toNat = jN1235 := by omega
  have pc1235 : (0 : Int) ≤ (pivot : Int) := by omega
  have bc1235 : (pivot : Int) < (d.size : Int) := by omega
  have rc1235 : IntKind.i64.wrap ((pivot : Int)) = (pivot : Int) := by rw [IntKind.wrap_i64]; omega
  obtain ⟨x1235, hx1235⟩ : ∃ x, x = d[a]! := ⟨_, rfl⟩
  obtain ⟨y1235, hy1235⟩ : ∃ x, x = d[pivot]! := ⟨_, rfl⟩
  have S1 : Aside (SX X (swp d (a) (pivot)) ((w.setCell ⟨X.blk, iN1235, none⟩ (encN y1235)).setCell ⟨X.blk, jN1235, none⟩ (encN x1235)).drew) := by rw [hiN1235, hjN1235, hx1235, hy1235]; exact S0.out.swapped (a) (pivot) (by omega) (by omega)
  have c1235a := S0.out.c1 (a) (by omega)
  have c1235b := S0.out.c1 (pivot) (by omega)
  have f1235a := S0.out.f1 (a) (by omega)
  have f1235b := S0.out.f1 (pivot) (by omega)
  obtain ⟨u1235, c1235c⟩ := S0.out.c2 (a) (pivot) (by omega) (by omega) (encN y1235)
  rw [← hjN1235, ← hiN1235] at c1235c
  rw [← hx1235, ← hiN1235] at c1235a
  rw [← hy1235, ← hjN1235] at c1235b
  rw [← hiN1235] at f1235a
  rw [← hjN1235] at f1235b
  clear S0 hx1235 hy1235 hiN1235 hjN1235
  go_wp2_with fail
  go_region
  clear c1235a c1235b c1235c f1235a f1235b
  generalize ((w.setCell ⟨X.blk, iN1235, none⟩ (encN y1235)).setCell ⟨X.blk, jN1235, none⟩ (encN x1235)).drew = w1 at S1 ⊢
  clear ea1235 ec1235
  -- THE FIRST ROUND's STATE UNDER THE NAMES THAT EVERY ROUND USES
  obtain ⟨i1, hi⟩ : ∃ i : Nat, i = a + 1 := ⟨_, rfl⟩
  obtain ⟨j1, hj⟩ : ∃ j : Nat, j = b - 1 := ⟨_, rfl⟩
  obtain ⟨dk1, hdk⟩ : ∃ dk : Array Nat, dk = Sort.swp d a pivot := ⟨_, rfl⟩
  rw [← hdk] at S1
  have hs1 : dk1.size = d.size := by rw [hdk]; exact size_swp _ _ _
  have hai1 : a < i1 := by omega
  have hij1 : i1 ≤ j1 + 1 := by omega
  have hjb1 : j1 < b := by omega
  have Hi : Hid (i1 = a + 1) := hi
  have Hj : Hid (j1 = b - 1) := hj
  have Hdk : Hid (dk1 = Sort.swp d a pivot) := hdk
  have ezi : ((a : Int) + 1) = (i1 : Int) := by omega
  have ezj : ((b : Int) - 1) = (j1 : Int) := by omega
  clear hi hj hdk
  go_wp2
  -- THE UPWARD SCAN
  go_loopw [12] (fun vi w1 => ∃ (p1 : Nat), vi = .int .i64 p1 ∧ i1 ≤ p1 ∧ p1 ≤ j1 + 1 ∧ Aside (SX X dk1 w1) ∧
      Hid (Sort.scanUp (fun x => (ltOf X.cf) x dk1[a]!) dk1 j1 p1 = Sort.scanUp (fun x => (ltOf X.cf) x dk1[a]!) dk1 j1 i1))
    (fun vi _ => j1 + 1 - (intOf vi).toNat)
  case atStart => exact ⟨i1, rfl, Nat.le_refl _, hij1, S1, rfl⟩
  case round =>
    clear S1
    obtain ⟨p1, rfl, hii1, hij'1, SU1, hsc1⟩ := hrel
    by_cases hle1 : p1 ≤ j1
    · have hgu1 : decide ((p1 : Int) ≤ (j1 : Int)) = true := decide_eq_true (by omega)
      cases hlv1 : (ltOf X.cf) dk1[p1]! dk1[a]! with
      | true =>
        -- it goes on: i++
        obtain ⟨iN1228, hiN1228⟩ : ∃ q, q = p1 := ⟨_, rfl⟩
        obtain ⟨jN1228, hjN1228⟩ : ∃ q, q = a := ⟨_, rfl⟩
        have ea1228 : ((p1 : Int)).toNat = iN1228 := by omega
        have pa1228 : (0 : Int) ≤ (p1 : Int) := by omega
        have ba1228 : (p1 : Int) < (d.size : Int) := by omega
        have ra1228 : IntKind.i64.wrap ((p1 : Int)) = (p1 : Int) := by rw [IntKind.wrap_i64]; omega
        have ec1228 : ((a : Int)).toNat = jN1228 := by omega
        have pc1228 : (0 : Int) ≤ (a : Int) := by omega
        have bc1228 : (a : Int) < (d.size : Int) := by omega
        have rc1228 : IntKind.i64.wrap ((a : Int)) = (a : Int) := by rw [IntKind.wrap_i64]; omega
        obtain ⟨x1228, hx1228⟩ : ∃ x, x = dk1[p1]! := ⟨_, rfl⟩
        obtain ⟨y1228, hy1228⟩ : ∃ x, x = dk1[a]! := ⟨_, rfl⟩
        have l1228a := SU1.out.drew.c1 (p1) (by omega)
        have l1228b := SU1.out.drew.c1 (a) (by omega)
        rw [← hx1228, ← hiN1228] at l1228a
        rw [← hy1228, ← hjN1228] at l1228b
        have hc1228 := SU1.out.drew.cmp (p1) (a) (by omega) (by omega)
        rw [← hx1228, ← hy1228] at hc1228
        have hv1228 : X.cf x1228 y1228 < 0 := by rw [hx1228, hy1228]; exact of_decide_eq_true hlv1
        have hd1228 : decide (X.cf x1228 y1228 < 0) = true := decide_eq_true hv1228
        clear hx1228 hy1228 hiN1228 hjN1228
        go_wp2_with fail
        (refine wp_region_still_tail 13 (by kernel_rfl) (by kernel_rfl) ?_; simp only [List.take_succ_cons, List.take_zero, List.drop_succ_cons, List.drop_zero]; (repeat still_step); refine wpStill_nil ?_)
        change wpList _ _ _ _ _ wr.drew
        refine wpList_gen fun Qq hQq => ?_
        go_wp2_with (go_at_call 78; go_must (refine hc1228.mono ?_; rintro e1q wv1 ⟨rfl, S2q, E2q⟩; have SV1 : Aside (SX X dk1 wv1) := S2q; clear l1228a l1228b hc1228 SU1 ea1228 ec1228 S2q E2q))
        obtain rfl := hQq.out
        clear hQq
        go_wp2
        go_roundw
        case rel => exact ⟨p1 + 1, by go_num, by omega, by omega, SV1, (scanUp_go (fun x => (ltOf X.cf) x dk1[a]!) dk1 j1 p1 hle1 hlv1).symm.trans hsc1.out⟩
        case measure => simp [intOf]; omega
      | false =>
        -- it stops: the test has failed
        have hi21 : Hid (p1 = Sort.scanUp (fun x => (ltOf X.cf) x dk1[a]!) dk1 j1 i1) := (scanUp_end (fun x => (ltOf X.cf) x dk1[a]!) dk1 j1 p1 (Or.inr hlv1)).symm.trans hsc1.out
        clear hsc1
        obtain ⟨iN1229, hiN1229⟩ : ∃ q, q = p1 := ⟨_, rfl⟩
        obtain ⟨jN1229, hjN1229⟩ : ∃ q, q = a := ⟨_, rfl⟩
        have ea1229 : ((p1 : Int)).toNat = iN1229 := by omega
        have pa1229 : (0 : Int) ≤ (p1 : Int) := by omega
        have ba1229 : (p1 : Int) < (d.size : Int) := by omega
        have ra1229 : IntKind.i64.wrap ((p1 : Int)) = (p1 : Int) := by rw [IntKind.wrap_i64]; omega
        have ec1229 : ((a : Int)).toNat = jN1229 := by omega
        have pc1229 : (0 : Int) ≤ (a : Int) := by omega
        have bc1229 : (a : Int) < (d.size : Int) := by omega
        have rc1229 : IntKind.i64.wrap ((a : Int)) = (a : Int) := by rw [IntKind.wrap_i64]; omega
        obtain ⟨x1229, hx1229⟩ : ∃ x, x = dk1[p1]! := ⟨_, rfl⟩
        obtain ⟨y1229, hy1229⟩ : ∃ x, x = dk1[a]! := ⟨_, rfl⟩
        have l1229a := SU1.out.drew.c1 (p1) (by omega)
        have l1229b := SU1.out.drew.c1 (a) (by omega)
        rw [← hx1229, ← hiN1229] at l1229a
        rw [← hy1229, ← hjN1229] at l1229b
        have hc1229 := SU1.out.drew.cmp (p1) (a) (by omega) (by omega)
        rw [← hx1229, ← hy1229] at hc1229
        have hv1229 : ¬ X.cf x1229 y1229 < 0 := by rw [hx1229, hy1229]; exact of_decide_eq_false hlv1
        have hd1229 : decide (X.cf x1229 y1229 < 0) = false := decide_eq_false hv1229
        clear hx1229 hy1229 hiN1229 hjN1229
        go_wp2_with fail
        (refine wp_region_still_tail 13 (by kernel_rfl) (by kernel_rfl) ?_; simp only [List.take_succ_cons, List.take_zero, List.drop_succ_cons, List.drop_zero]; (repeat still_step); refine wpStill_nil ?_)
        change wpList _ _ _ _ _ wr.drew
        refine wpList_gen fun Qq hQq => ?_
        go_wp2_with (go_at_call 78; go_must (refine hc1229.mono ?_; rintro e1q wv1 ⟨rfl, S2q, E2q⟩; have SV1 : Aside (SX X dk1 wv1) := S2q; clear l1229a l1229b hc1229 SU1 ea1229 ec1229 S2q E2q))
        obtain rfl := hQq.out
        clear hQq
        go_wp2
        -- THE DOWNWARD SCAN
        go_loopw [13] (fun vj w2 => ∃ (q1 : Nat), vj = .int .i64 q1 ∧ q1 ≤ j1 ∧ p1 ≤ q1 + 1 ∧ Aside (SX X dk1 w2) ∧
            Hid (Sort.scanDown (fun x => !(ltOf X.cf) x dk1[a]!) dk1 p1 q1 = Sort.scanDown (fun x => !(ltOf X.cf) x dk1[a]!) dk1 p1 j1))
          (fun vj _ => (intOf vj).toNat)
        case atStart => exact ⟨j1, rfl, Nat.le_refl _, hij'1, SV1, rfl⟩
        case round =>
          clear SV1
          obtain ⟨q1, rfl, hjj1, hij21, SD1, hsd1⟩ := hrel
          by_cases hle21 : p1 ≤ q1
          · have hgd1 : decide ((p1 : Int) ≤ (q1 : Int)) = true := decide_eq_true (by omega)
            cases hlv21 : (ltOf X.cf) dk1[q1]! dk1[a]! with
            | false =>
              -- it goes on: j--
              obtain ⟨iN1230, hiN1230⟩ : ∃ q, q = q1 := ⟨_, rfl⟩
              obtain ⟨jN1230, hjN1230⟩ : ∃ q, q = a := ⟨_, rfl⟩
              have ea1230 : ((q1 : Int)).toNat = iN1230 := by omega
              have pa1230 : (0 : Int) ≤ (q1 : Int) := by omega
              have ba1230 : (q1 : Int) < (d.size : Int) := by omega
              have ra1230 : IntKind.i64.wrap ((q1 : Int)) = (q1 : Int) := by rw [IntKind.wrap_i64]; omega
              have ec1230 : ((a : Int)).toNat = jN1230 := by omega
              have pc1230 : (0 : Int) ≤ (a : Int) := by omega
              have bc1230 : (a : Int) < (d.size : Int) := by omega
              have rc1230 : IntKind.i64.wrap ((a : Int)) = (a : Int) := by rw [IntKind.wrap_i64]; omega
              obtain ⟨x1230, hx1230⟩ : ∃ x, x = dk1[q1]! := ⟨_, rfl⟩
              obtain ⟨y1230, hy1230⟩ : ∃ x, x = dk1[a]! := ⟨_, rfl⟩
              have l1230a := SD1.out.drew.c1 (q1) (by omega)
              have l1230b := SD1.out.drew.c1 (a) (by omega)
              rw [← hx1230, ← hiN1230] at l1230a
              rw [← hy1230, ← hjN1230] at l1230b
              have hc1230 := SD1.out.drew.cmp (q1) (a) (by omega) (by omega)
              rw [← hx1230, ← hy1230] at hc1230
              have hv1230 : ¬ X.cf x1230 y1230 < 0 := by rw [hx1230, hy1230]; exact of_decide_eq_false hlv21
              have hd1230 : decide (X.cf x1230 y1230 < 0) = false := decide_eq_false hv1230
              clear hx1230 hy1230 hiN1230 hjN1230
              go_wp2_with fail
              (refine wp_region_still_tail 13 (by kernel_rfl) (by kernel_rfl) ?_; simp only [List.take_succ_cons, List.take_zero, List.drop_succ_cons, List.drop_zero]; (repeat still_step); refine wpStill_nil ?_)
              change wpList _ _ _ _ _ wr.drew
              refine wpList_gen fun Qq hQq => ?_
              go_wp2_with (go_at_call 78; go_must (refine hc1230.mono ?_; rintro e1q we1 ⟨rfl, S2q, E2q⟩; have SE1 : Aside (SX X dk1 we1) := S2q; clear l1230a l1230b hc1230 SD1 ea1230 ec1230 S2q E2q))
              obtain rfl := hQq.out
              clear hQq
              go_wp2
              go_roundw
              case rel => exact ⟨q1 - 1, by go_num, by omega, by omega, SE1, (scanDown_go (fun x => !(ltOf X.cf) x dk1[a]!) dk1 p1 q1 hle21 (by omega) (by simp [hlv21])).symm.trans hsd1.out⟩
              case measure => simp [intOf]; omega
            | true =>
              -- it stops: the exchange; i++; j--
              have hj21 : Hid (q1 = Sort.scanDown (fun x => !(ltOf X.cf) x dk1[a]!) dk1 p1 j1) := (scanDown_end (fun x => !(ltOf X.cf) x dk1[a]!) dk1 p1 q1 (Or.inr (by simp [hlv21]))).symm.trans hsd1.out
              have hlt31 := part_scans_lt (ltOf X.cf) a i1 j1 dk1 (by omega) hi21.out hj21.out hle21
              have hgt1 : decide ((q1 : Int) < (p1 : Int)) = false := decide_eq_false (by omega)
              have hgn1 : decide (q1 < p1) = false := decide_eq_false (by omega)
              clear hsd1
              obtain ⟨iN1231, hiN1231⟩ : ∃ q, q = q1 := ⟨_, rfl⟩
              obtain ⟨jN1231, hjN1231⟩ : ∃ q, q = a := ⟨_, rfl⟩
              have ea1231 : ((q1 : Int)).toNat = iN1231 := by omega
              have pa1231 : (0 : Int) ≤ (q1 : Int) := by omega
              have ba1231 : (q1 : Int) < (d.size : Int) := by omega
              have ra1231 : IntKind.i64.wrap ((q1 : Int)) = (q1 : Int) := by rw [IntKind.wrap_i64]; omega
              have ec1231 : ((a : Int)).toNat = jN1231 := by omega
              have pc1231 : (0 : Int) ≤ (a : Int) := by omega
              have bc1231 : (a : Int) < (d.size : Int) := by omega
              have rc1231 : IntKind.i64.wrap ((a : Int)) = (a : Int) := by rw [IntKind.wrap_i64]; omega
              obtain ⟨x1231, hx1231⟩ : ∃ x, x = dk1[q1]! := ⟨_, rfl⟩
              obtain ⟨y1231, hy1231⟩ : ∃ x, x = dk1[a]! := ⟨_, rfl⟩
              have l1231a := SD1.out.drew.c1 (q1) (by omega)
              have l1231b := SD1.out.drew.c1 (a) (by omega)
              rw [← hx1231, ← hiN1231] at l1231a
              rw [← hy1231, ← hjN1231] at l1231b
              have hc1231 := SD1.out.drew.cmp (q1) (a) (by omega) (by omega)
              rw [← hx1231, ← hy1231] at hc1231
              have hv1231 : X.cf x1231 y1231 < 0 := by rw [hx1231, hy1231]; exact of_decide_eq_true hlv21
              have hd1231 : decide (X.cf x1231 y1231 < 0) = true := decide_eq_true hv1231
              clear hx1231 hy1231 hiN1231 hjN1231
              go_wp2_with fail
              (refine wp_region_still_tail 13 (by kernel_rfl) (by kernel_rfl) ?_; simp only [List.take_succ_cons, List.take_zero, List.drop_succ_cons, List.drop_zero]; (repeat still_step); refine wpStill_nil ?_)
              change wpList _ _ _ _ _ wr.drew
              refine wpList_gen fun Qq hQq => ?_
              go_wp2_with (go_at_call 78; go_must (refine hc1231.mono ?_; rintro e1q we1 ⟨rfl, S2q, E2q⟩; have SE1 : Aside (SX X dk1 we1) := S2q; clear l1231a l1231b hc1231 SD1 ea1231 ec1231 S2q E2q))
              obtain rfl := hQq.out
              clear hQq
              go_wp2_with fail
              obtain ⟨iN1232, hiN1232⟩ : ∃ q, q = p1 := ⟨_, rfl⟩
              obtain ⟨jN1232, hjN1232⟩ : ∃ q, q = q1 := ⟨_, rfl⟩
              have ea1232 : ((p1 : Int)).toNat = iN1232 := by omega
              have pa1232 : (0 : Int) ≤ (p1 : Int) := by omega
              have ba1232 : (p1 : Int) < (d.size : Int) := by omega
              have ra1232 : IntKind.i64.wrap ((p1 : Int)) = (p1 : Int) := by rw [IntKind.wrap_i64]; omega
              have ec1232 : ((q1 : Int)).toNat = jN1232 := by omega
              have pc1232 : (0 : Int) ≤ (q1 : Int) := by omega
              have bc1232 : (q1 : Int) < (d.size : Int) := by omega
              have rc1232 : IntKind.i64.wrap ((q1 : Int)) = (q1 : Int) := by rw [IntKind.wrap_i64]; omega
              obtain ⟨x1232, hx1232⟩ : ∃ x, x = dk1[p1]! := ⟨_, rfl⟩
              obtain ⟨y1232, hy1232⟩ : ∃ x, x = dk1[q1]! := ⟨_, rfl⟩
              have SF1 : Aside (SX X (swp dk1 (p1) (q1)) ((we1.setCell ⟨X.blk, iN1232, none⟩ (encN y1232)).setCell ⟨X.blk, jN1232, none⟩ (encN x1232)).drew) := by rw [hiN1232, hjN1232, hx1232, hy1232]; exact SE1.out.swapped (p1) (q1) (by omega) (by omega)
              have c1232a := SE1.out.c1 (p1) (by omega)
              have c1232b := SE1.out.c1 (q1) (by omega)
              have f1232a := SE1.out.f1 (p1) (by omega)
              have f1232b := SE1.out.f1 (q1) (by omega)
              obtain ⟨u1232, c1232c⟩ := SE1.out.c2 (p1) (q1) (by omega) (by omega) (encN y1232)
              rw [← hjN1232, ← hiN1232] at c1232c
              rw [← hx1232, ← hiN1232] at c1232a
              rw [← hy1232, ← hjN1232] at c1232b
              rw [← hiN1232] at f1232a
              rw [← hjN1232] at f1232b
              clear SE1 hx1232 hy1232 hiN1232 hjN1232
              go_wp2_with fail
              go_region
              clear c1232a c1232b c1232c f1232a f1232b
              generalize ((we1.setCell ⟨X.blk, iN1232, none⟩ (encN y1232)).setCell ⟨X.blk, jN1232, none⟩ (encN x1232)).drew = wf1 at SF1 ⊢
              clear ea1232 ec1232
              go_wp2
              -- THE 'for {'
              obtain ⟨I0, hI0⟩ : ∃ I0 : Nat, I0 = p1 + 1 := ⟨_, rfl⟩
              obtain ⟨J0, hJ0⟩ : ∃ J0 : Nat, J0 = q1 - 1 := ⟨_, rfl⟩
              obtain ⟨D0, hD0⟩ : ∃ D0 : Array Nat, D0 = Sort.swp dk1 p1 q1 := ⟨_, rfl⟩
              have PF : Hid (Sort.partition (ltOf X.cf) d a b pivot = ((Sort.partLoop (ltOf X.cf) a I0 J0 D0).1, false, Sort.swp (Sort.partLoop (ltOf X.cf) a I0 J0 D0).2 (Sort.partLoop (ltOf X.cf) a I0 J0 D0).1 a)) := by
                rw [hI0, hJ0, hD0]; exact part_first_go (ltOf X.cf) d a b pivot Hi.out Hj.out Hdk.out hi21.out hj21.out (by omega)
              go_loopw [12, 13] (fun vi vj wr => ∃ (i2 j2 : Nat) (dk2 : Array Nat), vi = .int .i64 i2 ∧ vj = .int .i64 j2 ∧ a < i2 ∧ i2 ≤ j2 + 1 ∧ j2 < b ∧ dk2.size = d.size ∧ Aside (SX X dk2 wr) ∧
                  Sort.partLoop (ltOf X.cf) a i2 j2 dk2 = Sort.partLoop (ltOf X.cf) a I0 J0 D0)
                (fun vi vj _ => (intOf vj).toNat + 1 - (intOf vi).toNat)
              case atStart => exact ⟨p1 + 1, q1 - 1, Sort.swp dk1 p1 q1, by go_num, by go_num, by omega, by omega, by omega, by rw [size_swp]; exact hs1, SF1, by rw [hI0, hJ0, hD0]⟩
              case round =>
                clear SF1 hI0 hJ0 hD0 hj21 hi21 hlt31 Hi Hj Hdk
                obtain ⟨i2, j2, dk2, rfl, rfl, hai2, hij2, hjb2, hs2, T1, heq⟩ := hrel
                have AE : Hid (Sort.partLoop (ltOf X.cf) a i2 j2 dk2 = Sort.partLoop (ltOf X.cf) a I0 J0 D0) := heq
                clear heq
                go_wp2
                -- THE UPWARD SCAN
                go_loopw [12] (fun vi w1 => ∃ (p2 : Nat), vi = .int .i64 p2 ∧ i2 ≤ p2 ∧ p2 ≤ j2 + 1 ∧ Aside (SX X dk2 w1) ∧
                    Hid (Sort.scanUp (fun x => (ltOf X.cf) x dk2[a]!) dk2 j2 p2 = Sort.scanUp (fun x => (ltOf X.cf) x dk2[a]!) dk2 j2 i2))
                  (fun vi _ => j2 + 1 - (intOf vi).toNat)
                case atStart => exact ⟨i2, rfl, Nat.le_refl _, hij2, T1, rfl⟩
                case round =>
                  clear T1
                  obtain ⟨p2, rfl, hii2, hij'2, SU2, hsc2⟩ := hrel
                  by_cases hle2 : p2 ≤ j2
                  · have hgu2 : decide ((p2 : Int) ≤ (j2 : Int)) = true := decide_eq_true (by omega)
                    cases hlv2 : (ltOf X.cf) dk2[p2]! dk2[a]! with
                    | true =>
                      -- it goes on: i++
                      obtain ⟨iN1221, hiN1221⟩ : ∃ q, q = p2 := ⟨_, rfl⟩
                      obtain ⟨jN1221, hjN1221⟩ : ∃ q, q = a := ⟨_, rfl⟩
                      have ea1221 : ((p2 : Int)).toNat = iN1221 := by omega
                      have pa1221 : (0 : Int) ≤ (p2 : Int) := by omega
                      have ba1221 : (p2 : Int) < (d.size : Int) := by omega
                      have ra1221 : IntKind.i64.wrap ((p2 : Int)) = (p2 : Int) := by rw [IntKind.wrap_i64]; omega
                      have ec1221 : ((a : Int)).toNat = jN1221 := by omega
                      have pc1221 : (0 : Int) ≤ (a : Int) := by omega
                      have bc1221 : (a : Int) < (d.size : Int) := by omega
                      have rc1221 : IntKind.i64.wrap ((a : Int)) = (a : Int) := by rw [IntKind.wrap_i64]; omega
                      obtain ⟨x1221, hx1221⟩ : ∃ x, x = dk2[p2]! := ⟨_, rfl⟩
                      obtain ⟨y1221, hy1221⟩ : ∃ x, x = dk2[a]! := ⟨_, rfl⟩
                      have l1221a := SU2.out.drew.c1 (p2) (by omega)
                      have l1221b := SU2.out.drew.c1 (a) (by omega)
                      rw [← hx1221, ← hiN1221] at l1221a
                      rw [← hy1221, ← hjN1221] at l1221b
                      have hc1221 := SU2.out.drew.cmp (p2) (a) (by omega) (by omega)
                      rw [← hx1221, ← hy1221] at hc1221
                      have hv1221 : X.cf x1221 y1221 < 0 := by rw [hx1221, hy1221]; exact of_decide_eq_true hlv2
                      have hd1221 : decide (X.cf x1221 y1221 < 0) = true := decide_eq_true hv1221
                      clear hx1221 hy1221 hiN1221 hjN1221
                      go_wp2_with fail
                      (refine wp_region_still_tail 13 (by kernel_rfl) (by kernel_rfl) ?_; simp only [List.take_succ_cons, List.take_zero, List.drop_succ_cons, List.drop_zero]; (repeat still_step); refine wpStill_nil ?_)
                      change wpList _ _ _ _ _ wr.drew
                      refine wpList_gen fun Qq hQq => ?_
                      go_wp2_with (go_at_call 78; go_must (refine hc1221.mono ?_; rintro e1q wv2 ⟨rfl, S2q, E2q⟩; have SV2 : Aside (SX X dk2 wv2) := S2q; clear l1221a l1221b hc1221 SU2 ea1221 ec1221 S2q E2q))
                      obtain rfl := hQq.out
                      clear hQq
                      go_wp2
                      go_roundw
                      case rel => exact ⟨p2 + 1, by go_num, by omega, by omega, SV2, (scanUp_go (fun x => (ltOf X.cf) x dk2[a]!) dk2 j2 p2 hle2 hlv2).symm.trans hsc2.out⟩
                      case measure => simp [intOf]; omega
                    | false =>
                      -- it stops: the test has failed
                      have hi22 : Hid (p2 = Sort.scanUp (fun x => (ltOf X.cf) x dk2[a]!) dk2 j2 i2) := (scanUp_end (fun x => (ltOf X.cf) x dk2[a]!) dk2 j2 p2 (Or.inr hlv2)).symm.trans hsc2.out
                      clear hsc2
                      obtain ⟨iN1222, hiN1222⟩ : ∃ q, q = p2 := ⟨_, rfl⟩
                      obtain ⟨jN1222, hjN1222⟩ : ∃ q, q = a := ⟨_, rfl⟩
                      have ea1222 : ((p2 : Int)).toNat = iN1222 := by omega
                      have pa1222 : (0 : Int) ≤ (p2 : Int) := by omega
                      have ba1222 : (p2 : Int) < (d.size : Int) := by omega
                      have ra1222 : IntKind.i64.wrap ((p2 : Int)) = (p2 : Int) := by rw [IntKind.wrap_i64]; omega
                      have ec1222 : ((a : Int)).toNat = jN1222 := by omega
                      have pc1222 : (0 : Int) ≤ (a : Int) := by omega
                      have bc1222 : (a : Int) < (d.size : Int) := by omega
                      have rc1222 : IntKind.i64.wrap ((a : Int)) = (a : Int) := by rw [IntKind.wrap_i64]; omega
                      obtain ⟨x1222, hx1222⟩ : ∃ x, x = dk2[p2]! := ⟨_, rfl⟩
                      obtain ⟨y1222, hy1222⟩ : ∃ x, x = dk2[a]! := ⟨_, rfl⟩
                      have l1222a := SU2.out.drew.c1 (p2) (by omega)
                      have l1222b := SU2.out.drew.c1 (a) (by omega)
                      rw [← hx1222, ← hiN1222] at l1222a
                      rw [← hy1222, ← hjN1222] at l1222b
                      have hc1222 := SU2.out.drew.cmp (p2) (a) (by omega) (by omega)
                      rw [← hx1222, ← hy1222] at hc1222
                      have hv1222 : ¬ X.cf x1222 y1222 < 0 := by rw [hx1222, hy1222]; exact of_decide_eq_false hlv2
                      have hd1222 : decide (X.cf x1222 y1222 < 0) = false := decide_eq_false hv1222
                      clear hx1222 hy1222 hiN1222 hjN1222
                      go_wp2_with fail
                      (refine wp_region_still_tail 13 (by kernel_rfl) (by kernel_rfl) ?_; simp only [List.take_succ_cons, List.take_zero, List.drop_succ_cons, List.drop_zero]; (repeat still_step); refine wpStill_nil ?_)
                      change wpList _ _ _ _ _ wr.drew
                      refine wpList_gen fun Qq hQq => ?_
                      go_wp2_with (go_at_call 78; go_must (refine hc1222.mono ?_; rintro e1q wv2 ⟨rfl, S2q, E2q⟩; have SV2 : Aside (SX X dk2 wv2) := S2q; clear l1222a l1222b hc1222 SU2 ea1222 ec1222 S2q E2q))
                      obtain rfl := hQq.out
                      clear hQq
                      go_wp2
                      -- THE DOWNWARD SCAN
                      go_loopw [13] (fun vj w2 => ∃ (q2 : Nat), vj = .int .i64 q2 ∧ q2 ≤ j2 ∧ p2 ≤ q2 + 1 ∧ Aside (SX X dk2 w2) ∧
                          Hid (Sort.scanDown (fun x => !(ltOf X.cf) x dk2[a]!) dk2 p2 q2 = Sort.scanDown (fun x => !(ltOf X.cf) x dk2[a]!) dk2 p2 j2))
                        (fun vj _ => (intOf vj).toNat)
                      case atStart => exact ⟨j2, rfl, Nat.le_refl _, hij'2, SV2, rfl⟩
                      case round =>
                        clear SV2
                        obtain ⟨q2, rfl, hjj2, hij22, SD2, hsd2⟩ := hrel
                        by_cases hle22 : p2 ≤ q2
                        · have hgd2 : decide ((p2 : Int) ≤ (q2 : Int)) = true := decide_eq_true (by omega)
                          cases hlv22 : (ltOf X.cf) dk2[q2]! dk2[a]! with
                          | false =>
                            -- it goes on: j--
                            obtain ⟨iN1223, hiN1223⟩ : ∃ q, q = q2 := ⟨_, rfl⟩
                            obtain ⟨jN1223, hjN1223⟩ : ∃ q, q = a := ⟨_, rfl⟩
                            have ea1223 : ((q2 : Int)).toNat = iN1223 := by omega
                            have pa1223 : (0 : Int) ≤ (q2 : Int) := by omega
                            have ba1223 : (q2 : Int) < (d.size : Int) := by omega
                            have ra1223 : IntKind.i64.wrap ((q2 : Int)) = (q2 : Int) := by rw [IntKind.wrap_i64]; omega
                            have ec1223 : ((a : Int)).toNat = jN1223 := by omega
                            have pc1223 : (0 : Int) ≤ (a : Int) := by omega
                            have bc1223 : (a : Int) < (d.size : Int) := by omega
                            have rc1223 : IntKind.i64.wrap ((a : Int)) = (a : Int) := by rw [IntKind.wrap_i64]; omega
                            obtain ⟨x1223, hx1223⟩ : ∃ x, x = dk2[q2]! := ⟨_, rfl⟩
                            obtain ⟨y1223, hy1223⟩ : ∃ x, x = dk2[a]! := ⟨_, rfl⟩
                            have l1223a := SD2.out.drew.c1 (q2) (by omega)
                            have l1223b := SD2.out.drew.c1 (a) (by omega)
                            rw [← hx1223, ← hiN1223] at l1223a
                            rw [← hy1223, ← hjN1223] at l1223b
                            have hc1223 := SD2.out.drew.cmp (q2) (a) (by omega) (by omega)
                            rw [← hx1223, ← hy1223] at hc1223
                            have hv1223 : ¬ X.cf x1223 y1223 < 0 := by rw [hx1223, hy1223]; exact of_decide_eq_false hlv22
                            have hd1223 : decide (X.cf x1223 y1223 < 0) = false := decide_eq_false hv1223
                            clear hx1223 hy1223 hiN1223 hjN1223
                            go_wp2_with fail
                            (refine wp_region_still_tail 13 (by kernel_rfl) (by kernel_rfl) ?_; simp only [List.take_succ_cons, List.take_zero, List.drop_succ_cons, List.drop_zero]; (repeat still_step); refine wpStill_nil ?_)
                            change wpList _ _ _ _ _ wr.drew
                            refine wpList_gen fun Qq hQq => ?_
                            go_wp2_with (go_at_call 78; go_must (refine hc1223.mono ?_; rintro e1q we2 ⟨rfl, S2q, E2q⟩; have SE2 : Aside (SX X dk2 we2) := S2q; clear l1223a l1223b hc1223 SD2 ea1223 ec1223 S2q E2q))
                            obtain rfl := hQq.out
                            clear hQq
                            go_wp2
                            go_roundw
                            case rel => exact ⟨q2 - 1, by go_num, by omega, by omega, SE2, (scanDown_go (fun x => !(ltOf X.cf) x dk2[a]!) dk2 p2 q2 hle22 (by omega) (by simp [hlv22])).symm.trans hsd2.out⟩
                            case measure => simp [intOf]; omega
                          | true =>
                            -- it stops: the exchange; i++; j--
                            have hj22 : Hid (q2 = Sort.scanDown (fun x => !(ltOf X.cf) x dk2[a]!) dk2 p2 j2) := (scanDown_end (fun x => !(ltOf X.cf) x dk2[a]!) dk2 p2 q2 (Or.inr (by simp [hlv22]))).symm.trans hsd2.out
                            have hlt32 := part_scans_lt (ltOf X.cf) a i2 j2 dk2 (by omega) hi22.out hj22.out hle22
                            have hgt2 : decide ((q2 : Int) < (p2 : Int)) = false := decide_eq_false (by omega)
                            have hgn2 : decide (q2 < p2) = false := decide_eq_false (by omega)
                            clear hsd2
                            obtain ⟨iN1224, hiN1224⟩ : ∃ q, q = q2 := ⟨_, rfl⟩
                            obtain ⟨jN1224, hjN1224⟩ : ∃ q, q = a := ⟨_, rfl⟩
                            have ea1224 : ((q2 : Int)).toNat = iN1224 := by omega
                            have pa1224 : (0 : Int) ≤ (q2 : Int) := by omega
                            have ba1224 : (q2 : Int) < (d.size : Int) := by omega
                            have ra1224 : IntKind.i64.wrap ((q2 : Int)) = (q2 : Int) := by rw [IntKind.wrap_i64]; omega
                            have ec1224 : ((a : Int)).toNat = jN1224 := by omega
                            have pc1224 : (0 : Int) ≤ (a : Int) := by omega
                            have bc1224 : (a : Int) < (d.size : Int) := by omega
                            have rc1224 : IntKind.i64.wrap ((a : Int)) = (a : Int) := by rw [IntKind.wrap_i64]; omega
                            obtain ⟨x1224, hx1224⟩ : ∃ x, x = dk2[q2]! := ⟨_, rfl⟩
                            obtain ⟨y1224, hy1224⟩ : ∃ x, x = dk2[a]! := ⟨_, rfl⟩
                            have l1224a := SD2.out.drew.c1 (q2) (by omega)
                            have l1224b := SD2.out.drew.c1 (a) (by omega)
                            rw [← hx1224, ← hiN1224] at l1224a
                            rw [← hy1224, ← hjN1224] at l1224b
                            have hc1224 := SD2.out.drew.cmp (q2) (a) (by omega) (by omega)
                            rw [← hx1224, ← hy1224] at hc1224
                            have hv1224 : X.cf x1224 y1224 < 0 := by rw [hx1224, hy1224]; exact of_decide_eq_true hlv22
                            have hd1224 : decide (X.cf x1224 y1224 < 0) = true := decide_eq_true hv1224
                            clear hx1224 hy1224 hiN1224 hjN1224
                            go_wp2_with fail
                            (refine wp_region_still_tail 13 (by kernel_rfl) (by kernel_rfl) ?_; simp only [List.take_succ_cons, List.take_zero, List.drop_succ_cons, List.drop_zero]; (repeat still_step); refine wpStill_nil ?_)
                            change wpList _ _ _ _ _ wr.drew
                            refine wpList_gen fun Qq hQq => ?_
                            go_wp2_with (go_at_call 78; go_must (refine hc1224.mono ?_; rintro e1q we2 ⟨rfl, S2q, E2q⟩; have SE2 : Aside (SX X dk2 we2) := S2q; clear l1224a l1224b hc1224 SD2 ea1224 ec1224 S2q E2q))
                            obtain rfl := hQq.out
                            clear hQq
                            go_wp2_with fail
                            obtain ⟨iN1225, hiN1225⟩ : ∃ q, q = p2 := ⟨_, rfl⟩
                            obtain ⟨jN1225, hjN1225⟩ : ∃ q, q = q2 := ⟨_, rfl⟩
                            have ea1225 : ((p2 : Int)).toNat = iN1225 := by omega
                            have pa1225 : (0 : Int) ≤ (p2 : Int) := by omega
                            have ba1225 : (p2 : Int) < (d.size : Int) := by omega
                            have ra1225 : IntKind.i64.wrap ((p2 : Int)) = (p2 : Int) := by rw [IntKind.wrap_i64]; omega
                            have ec1225 : ((q2 : Int)).toNat = jN1225 := by omega
                            have pc1225 : (0 : Int) ≤ (q2 : Int) := by omega
                            have bc1225 : (q2 : Int) < (d.size : Int) := by omega
                            have rc1225 : IntKind.i64.wrap ((q2 : Int)) = (q2 : Int) := by rw [IntKind.wrap_i64]; omega
                            obtain ⟨x1225, hx1225⟩ : ∃ x, x = dk2[p2]! := ⟨_, rfl⟩
                            obtain ⟨y1225, hy1225⟩ : ∃ x, x = dk2[q2]! := ⟨_, rfl⟩
                            have SF2 : Aside (SX X (swp dk2 (p2) (q2)) ((we2.setCell ⟨X.blk, iN1225, none⟩ (encN y1225)).setCell ⟨X.blk, jN1225, none⟩ (encN x1225)).drew) := by rw [hiN1225, hjN1225, hx1225, hy1225]; exact SE2.out.swapped (p2) (q2) (by omega) (by omega)
                            have c1225a := SE2.out.c1 (p2) (by omega)
                            have c1225b := SE2.out.c1 (q2) (by omega)
                            have f1225a := SE2.out.f1 (p2) (by omega)
                            have f1225b := SE2.out.f1 (q2) (by omega)
                            obtain ⟨u1225, c1225c⟩ := SE2.out.c2 (p2) (q2) (by omega) (by omega) (encN y1225)
                            rw [← hjN1225, ← hiN1225] at c1225c
                            rw [← hx1225, ← hiN1225] at c1225a
                            rw [← hy1225, ← hjN1225] at c1225b
                            rw [← hiN1225] at f1225a
                            rw [← hjN1225] at f1225b
                            clear SE2 hx1225 hy1225 hiN1225 hjN1225
                            go_wp2_with fail
                            go_region
                            clear c1225a c1225b c1225c f1225a f1225b
                            generalize ((we2.setCell ⟨X.blk, iN1225, none⟩ (encN y1225)).setCell ⟨X.blk, jN1225, none⟩ (encN x1225)).drew = wf2 at SF2 ⊢
                            clear ea1225 ec1225
                            go_wp2
                            go_roundw
                            case rel =>
                              refine ⟨p2 + 1, q2 - 1, Sort.swp dk2 p2 q2, by go_num, by go_num, by omega, by omega, by omega, by rw [size_swp]; exact hs2, SF2, ?_⟩
                              rw [← AE.out]; exact (part_go (ltOf X.cf) a i2 j2 dk2 hi22.out hj22.out (by omega)).symm
                            case measure => simp [intOf]; omega
                        · -- it stops: i > j (the guard is false: 'cmp' is not called)
                          have hj22 : Hid (q2 = Sort.scanDown (fun x => !(ltOf X.cf) x dk2[a]!) dk2 p2 j2) := (scanDown_end (fun x => !(ltOf X.cf) x dk2[a]!) dk2 p2 q2 (Or.inl hle22)).symm.trans hsd2.out
                          have hgd2 : decide ((p2 : Int) ≤ (q2 : Int)) = false := decide_eq_false (by omega)
                          have hgt2 : decide ((q2 : Int) < (p2 : Int)) = true := decide_eq_true (by omega)
                          have hgn2 : decide (q2 < p2) = true := decide_eq_true (by omega)
                          clear hsd2
                          go_wp2_with fail
                          go_region
                          have SE2 : Aside (SX X dk2 wr.drew) := SD2.out.drew
                          clear SD2
                          generalize wr.drew = we2 at SE2 ⊢
                          go_wp2_with fail
                          obtain ⟨iN1226, hiN1226⟩ : ∃ q, q = q2 := ⟨_, rfl⟩
                          obtain ⟨jN1226, hjN1226⟩ : ∃ q, q = a := ⟨_, rfl⟩
                          have ea1226 : ((q2 : Int)).toNat = iN1226 := by omega
                          have pa1226 : (0 : Int) ≤ (q2 : Int) := by omega
                          have ba1226 : (q2 : Int) < (d.size : Int) := by omega
                          have ra1226 : IntKind.i64.wrap ((q2 : Int)) = (q2 : Int) := by rw [IntKind.wrap_i64]; omega
                          have ec1226 : ((a : Int)).toNat = jN1226 := by omega
                          have pc1226 : (0 : Int) ≤ (a : Int) := by omega
                          have bc1226 : (a : Int) < (d.size : Int) := by omega
                          have rc1226 : IntKind.i64.wrap ((a : Int)) = (a : Int) := by rw [IntKind.wrap_i64]; omega
                          obtain ⟨x1226, hx1226⟩ : ∃ x, x = dk2[q2]! := ⟨_, rfl⟩
                          obtain ⟨y1226, hy1226⟩ : ∃ x, x = dk2[a]! := ⟨_, rfl⟩
                          have SF2 : Aside (SX X (swp dk2 (q2) (a)) ((we2.setCell ⟨X.blk, iN1226, none⟩ (encN y1226)).setCell ⟨X.blk, jN1226, none⟩ (encN x1226)).drew) := by rw [hiN1226, hjN1226, hx1226, hy1226]; exact SE2.out.swapped (q2) (a) (by omega) (by omega)
                          have c1226a := SE2.out.c1 (q2) (by omega)
                          have c1226b := SE2.out.c1 (a) (by omega)
                          have f1226a := SE2.out.f1 (q2) (by omega)
                          have f1226b := SE2.out.f1 (a) (by omega)
                          obtain ⟨u1226, c1226c⟩ := SE2.out.c2 (q2) (a) (by omega) (by omega) (encN y1226)
                          rw [← hjN1226, ← hiN1226] at c1226c
                          rw [← hx1226, ← hiN1226] at c1226a
                          rw [← hy1226, ← hjN1226] at c1226b
                          rw [← hiN1226] at f1226a
                          rw [← hjN1226] at f1226b
                          clear SE2 hx1226 hy1226 hiN1226 hjN1226
                          go_wp2_with fail
                          go_region
                          clear c1226a c1226b c1226c f1226a f1226b
                          generalize ((we2.setCell ⟨X.blk, iN1226, none⟩ (encN y1226)).setCell ⟨X.blk, jN1226, none⟩ (encN x1226)).drew = wf2 at SF2 ⊢
                          clear ea1226 ec1226
                          go_wp2
                          go_ret2
                          have e := part_break (ltOf X.cf) a i2 j2 dk2 hi22.out hj22.out (by omega)
                          rw [PF.out, ← AE.out, e]
                          exact ⟨rfl, SF2.out⟩
                  · -- it stops: i > j (the guard is false)
                    have hi22 : Hid (p2 = Sort.scanUp (fun x => (ltOf X.cf) x dk2[a]!) dk2 j2 i2) := (scanUp_end (fun x => (ltOf X.cf) x dk2[a]!) dk2 j2 p2 (Or.inl hle2)).symm.trans hsc2.out
                    have hgu2 : decide ((p2 : Int) ≤ (j2 : Int)) = false := decide_eq_false (by omega)
                    clear hsc2
                    go_wp2_with fail
                    go_region
                    have SV2 : Aside (SX X dk2 wr.drew) := SU2.out.drew
                    clear SU2
                    generalize wr.drew = wv2 at SV2 ⊢
                    go_wp2
                    -- THE DOWNWARD SCAN
                    go_loopw [13] (fun vj w2 => ∃ (q2 : Nat), vj = .int .i64 q2 ∧ q2 ≤ j2 ∧ p2 ≤ q2 + 1 ∧ Aside (SX X dk2 w2) ∧
                        Hid (Sort.scanDown (fun x => !(ltOf X.cf) x dk2[a]!) dk2 p2 q2 = Sort.scanDown (fun x => !(ltOf X.cf) x dk2[a]!) dk2 p2 j2))
                      (fun vj _ => (intOf vj).toNat)
                    case atStart => exact ⟨j2, rfl, Nat.le_refl _, hij'2, SV2, rfl⟩
                    case round =>
                      clear SV2
                      obtain ⟨q2, rfl, hjj2, hij22, SD2, hsd2⟩ := hrel
                      by_cases hle22 : p2 ≤ q2
                      · exfalso; omega      -- the upward scan has run past j, and j' ≤ j
                      · -- it stops: i > j (the guard is false: 'cmp' is not called)
                        have hj22 : Hid (q2 = Sort.scanDown (fun x => !(ltOf X.cf) x dk2[a]!) dk2 p2 j2) := (scanDown_end (fun x => !(ltOf X.cf) x dk2[a]!) dk2 p2 q2 (Or.inl hle22)).symm.trans hsd2.out
                        have hgd2 : decide ((p2 : Int) ≤ (q2 : Int)) = false := decide_eq_false (by omega)
                        have hgt2 : decide ((q2 : Int) < (p2 : Int)) = true := decide_eq_true (by omega)
                        have hgn2 : decide (q2 < p2) = true := decide_eq_true (by omega)
                        clear hsd2
                        go_wp2_with fail
                        go_region
                        have SE2 : Aside (SX X dk2 wr.drew) := SD2.out.drew
                        clear SD2
                        generalize wr.drew = we2 at SE2 ⊢
                        go_wp2_with fail
                        obtain ⟨iN1227, hiN1227⟩ : ∃ q, q = q2 := ⟨_, rfl⟩
                        obtain ⟨jN1227, hjN1227⟩ : ∃ q, q = a := ⟨_, rfl⟩
                        have ea1227 : ((q2 : Int)).toNat = iN1227 := by omega
                        have pa1227 : (0 : Int) ≤ (q2 : Int) := by omega
                        have ba1227 : (q2 : Int) < (d.size : Int) := by omega
                        have ra1227 : IntKind.i64.wrap ((q2 : Int)) = (q2 : Int) := by rw [IntKind.wrap_i64]; omega
                        have ec1227 : ((a : Int)).toNat = jN1227 := by omega
                        have pc1227 : (0 : Int) ≤ (a : Int) := by omega
                        have bc1227 : (a : Int) < (d.size : Int) := by omega
                        have rc1227 : IntKind.i64.wrap ((a : Int)) = (a : Int) := by rw [IntKind.wrap_i64]; omega
                        obtain ⟨x1227, hx1227⟩ : ∃ x, x = dk2[q2]! := ⟨_, rfl⟩
                        obtain ⟨y1227, hy1227⟩ : ∃ x, x = dk2[a]! := ⟨_, rfl⟩
                        have SF2 : Aside (SX X (swp dk2 (q2) (a)) ((we2.setCell ⟨X.blk, iN1227, none⟩ (encN y1227)).setCell ⟨X.blk, jN1227, none⟩ (encN x1227)).drew) := by rw [hiN1227, hjN1227, hx1227, hy1227]; exact SE2.out.swapped (q2) (a) (by omega) (by omega)
                        have c1227a := SE2.out.c1 (q2) (by omega)
                        have c1227b := SE2.out.c1 (a) (by omega)
                        have f1227a := SE2.out.f1 (q2) (by omega)
                        have f1227b := SE2.out.f1 (a) (by omega)
                        obtain ⟨u1227, c1227c⟩ := SE2.out.c2 (q2) (a) (by omega) (by omega) (encN y1227)
                        rw [← hjN1227, ← hiN1227] at c1227c
                        rw [← hx1227, ← hiN1227] at c1227a
                        rw [← hy1227, ← hjN1227] at c1227b
                        rw [← hiN1227] at f1227a
                        rw [← hjN1227] at f1227b
                        clear SE2 hx1227 hy1227 hiN1227 hjN1227
                        go_wp2_with fail
                        go_region
                        clear c1227a c1227b c1227c f1227a f1227b
                        generalize ((we2.setCell ⟨X.blk, iN1227, none⟩ (encN y1227)).setCell ⟨X.blk, jN1227, none⟩ (encN x1227)).drew = wf2 at SF2 ⊢
                        clear ea1227 ec1227
                        go_wp2
                        go_ret2
                        have e := part_break (ltOf X.cf) a i2 j2 dk2 hi22.out hj22.out (by omega)
                        rw [PF.out, ← AE.out, e]
                        exact ⟨rfl, SF2.out⟩
          · -- it stops: i > j (the guard is false: 'cmp' is not called)
            have hj21 : Hid (q1 = Sort.scanDown (fun x => !(ltOf X.cf) x dk1[a]!) dk1 p1 j1) := (scanDown_end (fun x => !(ltOf X.cf) x dk1[a]!) dk1 p1 q1 (Or.inl hle21)).symm.trans hsd1.out
            have hgd1 : decide ((p1 : Int) ≤ (q1 : Int)) = false := decide_eq_false (by omega)
            have hgt1 : decide ((q1 : Int) < (p1 : Int)) = true := decide_eq_true (by omega)
            have hgn1 : decide (q1 < p1) = true := decide_eq_true (by omega)
            clear hsd1
            go_wp2_with fail
            go_region
            have SE1 : Aside (SX X dk1 wr.drew) := SD1.out.drew
            clear SD1
            generalize wr.drew = we1 at SE1 ⊢
            go_wp2_with fail
            obtain ⟨iN1233, hiN1233⟩ : ∃ q, q = q1 := ⟨_, rfl⟩
            obtain ⟨jN1233, hjN1233⟩ : ∃ q, q = a := ⟨_, rfl⟩
            have ea1233 : ((q1 : Int)).toNat = iN1233 := by omega
            have pa1233 : (0 : Int) ≤ (q1 : Int) := by omega
            have ba1233 : (q1 : Int) < (d.size : Int) := by omega
            have ra1233 : IntKind.i64.wrap ((q1 : Int)) = (q1 : Int) := by rw [IntKind.wrap_i64]; omega
            have ec1233 : ((a : Int)).toNat = jN1233 := by omega
            have pc1233 : (0 : Int) ≤ (a : Int) := by omega
            have bc1233 : (a : Int) < (d.size : Int) := by omega
            have rc1233 : IntKind.i64.wrap ((a : Int)) = (a : Int) := by rw [IntKind.wrap_i64]; omega
            obtain ⟨x1233, hx1233⟩ : ∃ x, x = dk1[q1]! := ⟨_, rfl⟩
            obtain ⟨y1233, hy1233⟩ : ∃ x, x = dk1[a]! := ⟨_, rfl⟩
            have SF1 : Aside (SX X (swp dk1 (q1) (a)) ((we1.setCell ⟨X.blk, iN1233, none⟩ (encN y1233)).setCell ⟨X.blk, jN1233, none⟩ (encN x1233)).drew) := by rw [hiN1233, hjN1233, hx1233, hy1233]; exact SE1.out.swapped (q1) (a) (by omega) (by omega)
            have c1233a := SE1.out.c1 (q1) (by omega)
            have c1233b := SE1.out.c1 (a) (by omega)
            have f1233a := SE1.out.f1 (q1) (by omega)
            have f1233b := SE1.out.f1 (a) (by omega)
            obtain ⟨u1233, c1233c⟩ := SE1.out.c2 (q1) (a) (by omega) (by omega) (encN y1233)
            rw [← hjN1233, ← hiN1233] at c1233c
            rw [← hx1233, ← hiN1233] at c1233a
            rw [← hy1233, ← hjN1233] at c1233b
            rw [← hiN1233] at f1233a
            rw [← hjN1233] at f1233b
            clear SE1 hx1233 hy1233 hiN1233 hjN1233
            go_wp2_with fail
            go_region
            clear c1233a c1233b c1233c f1233a f1233b
            generalize ((we1.setCell ⟨X.blk, iN1233, none⟩ (encN y1233)).setCell ⟨X.blk, jN1233, none⟩ (encN x1233)).drew = wf1 at SF1 ⊢
            clear ea1233 ec1233
            go_wp2
            go_ret2
            have e := part_first_break (ltOf X.cf) d a b pivot Hi.out Hj.out Hdk.out hi21.out hj21.out (by omega)
            rw [e]
            exact ⟨rfl, SF1.out⟩
    · -- it stops: i > j (the guard is false)
      have hi21 : Hid (p1 = Sort.scanUp (fun x => (ltOf X.cf) x dk1[a]!) dk1 j1 i1) := (scanUp_end (fun x => (ltOf X.cf) x dk1[a]!) dk1 j1 p1 (Or.inl hle1)).symm.trans hsc1.out
      have hgu1 : decide ((p1 : Int) ≤ (j1 : Int)) = false := decide_eq_false (by omega)
      clear hsc1
      go_wp2_with fail
      go_region
      have SV1 : Aside (SX X dk1 wr.drew) := SU1.out.drew
      clear SU1
      generalize wr.drew = wv1 at SV1 ⊢
      go_wp2
      -- THE DOWNWARD SCAN
      go_loopw [13] (fun vj w2 => ∃ (q1 : Nat), vj = .int .i64 q1 ∧ q1 ≤ j1 ∧ p1 ≤ q1 + 1 ∧ Aside (SX X dk1 w2) ∧
          Hid (Sort.scanDown (fun x => !(ltOf X.cf) x dk1[a]!) dk1 p1 q1 = Sort.scanDown (fun x => !(ltOf X.cf) x dk1[a]!) dk1 p1 j1))
        (fun vj _ => (intOf vj).toNat)
      case atStart => exact ⟨j1, rfl, Nat.le_refl _, hij'1, SV1, rfl⟩
      case round =>
        clear SV1
        obtain ⟨q1, rfl, hjj1, hij21, SD1, hsd1⟩ := hrel
        by_cases hle21 : p1 ≤ q1
        · exfalso; omega      -- the upward scan has run past j, and j' ≤ j
        · -- it stops: i > j (the guard is false: 'cmp' is not called)
          have hj21 : Hid (q1 = Sort.scanDown (fun x => !(ltOf X.cf) x dk1[a]!) dk1 p1 j1) := (scanDown_end (fun x => !(ltOf X.cf) x dk1[a]!) dk1 p1 q1 (Or.inl hle21)).symm.trans hsd1.out
          have hgd1 : decide ((p1 : Int) ≤ (q1 : Int)) = false := decide_eq_false (by omega)
          have hgt1 : decide ((q1 : Int) < (p1 : Int)) = true := decide_eq_true (by omega)
          have hgn1 : decide (q1 < p1) = true := decide_eq_true (by omega)
          clear hsd1
          go_wp2_with fail
          go_region
          have SE1 : Aside (SX X dk1 wr.drew) := SD1.out.drew
          clear SD1
          generalize wr.drew = we1 at SE1 ⊢
          go_wp2_with fail
          obtain ⟨iN1234, hiN1234⟩ : ∃ q, q = q1 := ⟨_, rfl⟩
          obtain ⟨jN1234, hjN1234⟩ : ∃ q, q = a := ⟨_, rfl⟩
          have ea1234 : ((q1 : Int)).toNat = iN1234 := by omega
          have pa1234 : (0 : Int) ≤ (q1 : Int) := by omega
          have ba1234 : (q1 : Int) < (d.size : Int) := by omega
          have ra1234 : IntKind.i64.wrap ((q1 : Int)) = (q1 : Int) := by rw [IntKind.wrap_i64]; omega
          have ec1234 : ((a : Int)).toNat = jN1234 := by omega
          have pc1234 : (0 : Int) ≤ (a : Int) := by omega
          have bc1234 : (a : Int) < (d.size : Int) := by omega
          have rc1234 : IntKind.i64.wrap ((a : Int)) = (a : Int) := by rw [IntKind.wrap_i64]; omega
          obtain ⟨x1234, hx1234⟩ : ∃ x, x = dk1[q1]! := ⟨_, rfl⟩
          obtain ⟨y1234, hy1234⟩ : ∃ x, x = dk1[a]! := ⟨_, rfl⟩
          have SF1 : Aside (SX X (swp dk1 (q1) (a)) ((we1.setCell ⟨X.blk, iN1234, none⟩ (encN y1234)).setCell ⟨X.blk, jN1234, none⟩ (encN x1234)).drew) := by rw [hiN1234, hjN1234, hx1234, hy1234]; exact SE1.out.swapped (q1) (a) (by omega) (by omega)
          have c1234a := SE1.out.c1 (q1) (by omega)
          have c1234b := SE1.out.c1 (a) (by omega)
          have f1234a := SE1.out.f1 (q1) (by omega)
          have f1234b := SE1.out.f1 (a) (by omega)
          obtain ⟨u1234, c1234c⟩ := SE1.out.c2 (q1) (a) (by omega) (by omega) (encN y1234)
          rw [← hjN1234, ← hiN1234] at c1234c
          rw [← hx1234, ← hiN1234] at c1234a
          rw [← hy1234, ← hjN1234] at c1234b
          rw [← hiN1234] at f1234a
          rw [← hjN1234] at f1234b
          clear SE1 hx1234 hy1234 hiN1234 hjN1234
          go_wp2_with fail
          go_region
          clear c1234a c1234b c1234c f1234a f1234b
          generalize ((we1.setCell ⟨X.blk, iN1234, none⟩ (encN y1234)).setCell ⟨X.blk, jN1234, none⟩ (encN x1234)).drew = wf1 at SF1 ⊢
          clear ea1234 ec1234
          go_wp2
          go_ret2
          have e := part_first_break (ltOf X.cf) d a b pivot Hi.out Hj.out Hdk.out hi21.out hj21.out (by omega)
          rw [e]
          exact ⟨rfl, SF1.out⟩
end Go.Proofs.Ytgchfbfgjanaiaa
