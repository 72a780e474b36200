/- slices.SortFunc of places (Pdq1): after the kit's walk at a comparison that turns nothing -/
import Derived.Test.YtgchfbfgjanaiaaJ07
import Derived.Test.YtgchfbfgjanaiaaJ09
import Derived.Test.YtgchfbfgjanaiaaJ11
import Derived.Test.YtgchfbfgjanaiaaJ12
import Derived.Test.YtgchfbfgjanaiaaJ13
import Derived.Test.YtgchfbfgjanaiaaJ14
import Derived.Shelf.SlSortFuncK.PdqK
import Derived.Sort.Walk13
import Derived.Sort.AssemblyPlain
import Derived.Sort.WalkB2
import Derived.Sort.WalkB12
import Derived.Deep.LoopGhost
set_option linter.unusedSimpArgs false
set_option linter.unusedVariables false
namespace Go.Proofs.Ytgchfbfgjanaiaa
open Go.RowKit Go.Lib Go.Sort Sr
variable {X : SC}
set_option maxHeartbeats 25600000 in
set_option maxRecDepth 1000000 in
theorem pdqsortCmpFunc_all_x (hO : SWO (ltOf X.cf)) :
    ∀ (N a b limit : Nat) (d : Array Nat) (w : World), b - a < N → SX X d w → a ≤ b → b ≤ d.size → d.size < 4611686018427387904 → limit < 4611686018427387904 → Below (ltOf X.cf) a b d →
    Calls Try.prog 105 #[.slice (some ⟨X.blk, 0, none⟩) d.size X.cap, .int .i64 a, .int .i64 b, .int .i64 limit, .func (.func 78) #[.pointer (some ⟨X.b.p, 0, none⟩)] #[]] w fun e w' => e = .returned (.tuple #[]) ∧ SX X (pdq (ltOf X.cf) d a b limit true true) w' := by
  have hcl0 := oneN.cells
  simp only [Value.cells] at hcl0
  have hst := oneN.store Try.prog
  intro N
  induction N with
  | zero => intro _ _ _ _ _ h; exact absurd h (Nat.not_lt_zero _)
  | succ N ih =>
    intro a b limit d w hN S hab hb hsz hlimit hBel0
    go_enter Try.func105, Try.ntmps105
    go_wp2
    go_loopg [1, 2, 3, 10, 11] (b - a) (fun kx s1 s2 s3 s8 s9 wr => ∃ (a' b' lim : Nat) (wb wp : Bool) (dk : Array Nat), s1 = .int .i64 a' ∧ s2 = .int .i64 b' ∧ s3 = .int .i64 lim ∧ s8 = .bool wb ∧ s9 = .bool wp ∧
      a' ≤ b' ∧ b' ≤ d.size ∧ b' - a' ≤ kx ∧ kx ≤ b - a ∧ lim ≤ limit ∧ dk.size = d.size ∧ Below (ltOf X.cf) a' b' dk ∧ SX X dk wr ∧ pdq (ltOf X.cf) dk a' b' lim wb wp = pdq (ltOf X.cf) d a b limit true true)
    case atStart => exact ⟨a, b, limit, true, true, d, rfl, rfl, rfl, rfl, rfl, hab, hb, Nat.le_refl _, Nat.le_refl _, Nat.le_refl _, rfl, hBel0, S, rfl⟩
    case round =>
      obtain ⟨a', b', lim, wb, wp, dk, rfl, rfl, rfl, rfl, rfl, hab', hb', hkx, hkN, hlim, hds, hBel, hAt, heq⟩ := hrel
      have A : Aside (pdq (ltOf X.cf) dk a' b' lim wb wp = pdq (ltOf X.cf) d a b limit true true) := heq
      clear heq
      by_cases h12 : b' - a' ≤ 12
      · -- 'if length <= maxInsertion'
        have h12z : (b' : Int) - (a' : Int) ≤ 12 := by omega
        have hc := insertionSortCmpFunc_s_x (X := X) a' b' dk wr hAt hab' (by omega) (by omega)
        rw [hds] at hc
        go_wp2_with (go_at_call 108; refine hc.mono ?_; rintro e w1 ⟨rfl, hw1⟩)
        (try simp only [Exit.inBlock, Exit.then]); refine bodyPost_ret (results_none rfl _ _ _) rfl ?_
        refine ⟨rfl, ?_⟩
        rw [← A.out, pdq_small h12]
        exact hw1
      · have h12z : ¬ ((b' : Int) - (a' : Int) ≤ 12) := by omega
        by_cases hl0 : lim = 0
        · -- 'if limit == 0'
          subst hl0
          have hc := heapSortCmpFunc_x (X := X) a' b' dk wr hAt hab' (by omega) (by omega)
          rw [hds] at hc
          go_wp2_with (go_at_call 109; refine hc.mono ?_; rintro e w1 ⟨rfl, hw1⟩)
          (try simp only [Exit.inBlock, Exit.then]); refine bodyPost_ret (results_none rfl _ _ _) rfl ?_
          refine ⟨rfl, ?_⟩
          rw [← A.out, pdq_heap h12 rfl]
          exact hw1
        · have hl0z : ¬ ((lim : Int) = 0) := by omega
          obtain ⟨s1, B1, hc1, s2, B2, hpv, s3, B3⟩ := rd_facts (lt := (ltOf X.cf)) (limit := lim) (wb := wb) (wp := wp) hO partialInsertionSort_holds reverseRange_holds (show a' < b' by omega) (show b' ≤ dk.size by omega) hBel
          -- behind the patterns the ways meet
          go_upto_if 39 with fail
          go_cut [3] from 21 (fun s3 wc => s3 = .int .i64 (rd (ltOf X.cf) dk a' b' lim wb wp).lim ∧ SX X (rd (ltOf X.cf) dk a' b' lim wb wp).d1 wc)
          case first =>
            cases wb
            · have hc := breakPatternsCmpFunc_x (X := X) a' b' dk wr hAt hab' (by omega) (by omega)
              rw [hds] at hc
              go_wp2_with (go_at_call 110; refine hc.mono ?_; rintro e w1 ⟨rfl, hw1⟩)
              go_meet
              case rel =>
                refine ⟨?_, hw1⟩
                show Value.int .i64 ((lim : Int) - 1) = Value.int .i64 ((lim - 1 : Nat) : Int)
                congr 1
                omega
            · go_wp2_with fail
              go_meet
              case rel => exact ⟨rfl, hAt⟩
          case rest =>
            obtain ⟨rfl, hAt1⟩ := hcut
            have hc17 : Calls Try.prog 111 #[.slice (some ⟨X.blk, 0, none⟩) d.size X.cap, .int .i64 a', .int .i64 b', .func (.func 78) #[.pointer (some ⟨X.b.p, 0, none⟩)] #[]] wc fun e w' => e = .returned (.tuple #[.int .i64 (rd (ltOf X.cf) dk a' b' lim wb wp).c.1, .int .i64 (hintCode (rd (ltOf X.cf) dk a' b' lim wb wp).c.2)]) ∧ SX X (rd (ltOf X.cf) dk a' b' lim wb wp).d1 w' := by
              have h := choosePivotCmpFunc_x (X := X) a' b' (rd (ltOf X.cf) dk a' b' lim wb wp).d1 wc hAt1 (by omega) (by omega) (by omega)
              rw [show (rd (ltOf X.cf) dk a' b' lim wb wp).d1.size = d.size from s1.trans hds] at h
              exact h
            go_upto_if 56 with (go_at_call 111; refine hc17.mono ?_; rintro e w2 ⟨rfl, hAt2⟩)
            -- behind the reversal the ways meet
            go_cut [13, 14] from 21 (fun s11 s12 wc => s11 = .int .i64 (rd (ltOf X.cf) dk a' b' lim wb wp).pivot ∧ s12 = .int .i64 (hintCode (rd (ltOf X.cf) dk a' b' lim wb wp).hint) ∧ SX X (rd (ltOf X.cf) dk a' b' lim wb wp).d2 wc)
            case first =>
              by_cases hh : (rd (ltOf X.cf) dk a' b' lim wb wp).c.2 = .decreasing
              · have hcode : hintCode (rd (ltOf X.cf) dk a' b' lim wb wp).c.2 = 2 := by rw [hh]; rfl
                obtain ⟨e2, epv, eht⟩ := rd_dec hh
                have hc18 := reverseRangeCmpFunc_x (X := X) a' b' (rd (ltOf X.cf) dk a' b' lim wb wp).d1 w2 hAt2 hab' (by omega) (by omega)
                rw [show (rd (ltOf X.cf) dk a' b' lim wb wp).d1.size = d.size from s1.trans hds] at hc18
                go_wp2_with (go_at_call 112; refine hc18.mono ?_; rintro e w3 ⟨rfl, hw3⟩)
                go_meet
                case rel =>
                  refine ⟨?_, by rw [eht]; rfl, by rw [e2]; exact hw3⟩
                  rw [epv]
                  congr 1
                  omega
              · have hcode : ¬ (hintCode (rd (ltOf X.cf) dk a' b' lim wb wp).c.2 = 2) := fun h => hh (hintCode_two h)
                obtain ⟨e2, epv, eht⟩ := rd_not hh
                go_wp2_with fail
                go_meet
                case rel => exact ⟨by rw [epv], by rw [eht], by rw [e2]; exact hAt2⟩
            case rest =>
              obtain ⟨rfl, rfl, hAt3⟩ := hcut
              -- the test over three variables: the ways meet
              go_upto_region 15 with fail
              go_cut [14, 75] from 21 (fun s12 s68 wx => s12 = .int .i64 (hintCode (rd (ltOf X.cf) dk a' b' lim wb wp).hint) ∧ s68 = .bool (wb && wp && decide ((rd (ltOf X.cf) dk a' b' lim wb wp).hint = .increasing)) ∧ wx = wc)
              case first =>
                cases wb <;> cases wp <;> cases hh3 : (rd (ltOf X.cf) dk a' b' lim _ _).hint <;>
                  (have hcode3 := congrArg hintCode hh3
                   simp only [hintCode] at hcode3
                   go_wp2_with fail
                   go_meet
                   exact ⟨by simp [hh3, hintCode], by simp [hh3, hintCode], rfl⟩)
              case rest =>
                obtain ⟨rfl, rfl, rfl⟩ := hcut
                -- behind the partial insertion the ways meet (one returns)
                go_upto_if 75 with fail
                go_cut [] from 21 (fun wx => (rd (ltOf X.cf) dk a' b' lim wb wp).pi.2 = false ∧ SX X (rd (ltOf X.cf) dk a' b' lim wb wp).pi.1 wx)
                case first =>
                  cases h68 : (wb && wp && decide ((rd (ltOf X.cf) dk a' b' lim wb wp).hint = .increasing))
                  · have epi := rd_pi_no h68
                    go_wp2_with fail
                    go_meet
                    case rel => exact ⟨by rw [epi], by rw [epi]; exact hAt3⟩
                  · have epi := rd_pi_yes h68
                    have hc19 := partialInsertionSortCmpFunc_x (X := X) a' b' (rd (ltOf X.cf) dk a' b' lim wb wp).d2 wc hAt3 (by omega) (by omega) (by omega)
                    rw [← epi, show (rd (ltOf X.cf) dk a' b' lim wb wp).d2.size = d.size from s2.trans hds] at hc19
                    go_wp2_with (go_at_call 113; refine hc19.mono ?_; rintro e w4 ⟨rfl, hw4⟩)
                    all_goals first
                      | (have hp2 : (rd (ltOf X.cf) dk a' b' lim wb wp).pi.2 = false := by rw [epi]; assumption
                         go_meet
                         exact ⟨hp2, hw4⟩)
                      | (have hp2 : (rd (ltOf X.cf) dk a' b' lim wb wp).pi.2 = true := by rw [epi]; assumption
                         (try simp only [Exit.inBlock, Exit.then]); refine bodyPost_ret (results_none rfl _ _ _) rfl ?_
                         refine ⟨rfl, ?_⟩
                         rw [← A.out, pdq_done h12 hl0 hp2]
                         exact hw4)
                case rest =>
                  obtain ⟨hp2, hAt5⟩ := hcut
                  -- the test against the pivot ahead: parted before it
                  have S5 : Aside (SX X (rd (ltOf X.cf) dk a' b' lim wb wp).pi.1 wc) := hAt5
                  have hpv1 := hpv.1
                  have hpv2 := hpv.2
                  clear hAt5
                  rcases Nat.eq_zero_or_pos a' with ha0 | ha0
                  · have ha0z : decide ((a' : Int) > 0) = false := decide_eq_false (by omega)
                    have h87a : (decide (a' > 0) && !(ltOf X.cf) (rd (ltOf X.cf) dk a' b' lim wb wp).pi.1[a' - 1]! (rd (ltOf X.cf) dk a' b' lim wb wp).pi.1[(rd (ltOf X.cf) dk a' b' lim wb wp).pivot]!) = false := by simp [ha0]
                    have hn0 : ¬ (0 < a') := by omega
                    have hn0d : decide (0 < a') = false := decide_eq_false hn0
                    have hn0z : decide ((0 : Int) < (a' : Int)) = false := decide_eq_false (by omega)
                    clear ha0
                    go_wp2_with fail
                    go_region
                    have S6 : Aside (SX X (rd (ltOf X.cf) dk a' b' lim wb wp).pi.1 wc.drew) := S5.out.drew
                    clear S5
                    generalize wc.drew = w6 at S6 ⊢
                    have hAt6 := S6.out
                    clear S6
                    have h87 : (decide (a' > 0) && !(ltOf X.cf) (rd (ltOf X.cf) dk a' b' lim wb wp).pi.1[a' - 1]! (rd (ltOf X.cf) dk a' b' lim wb wp).pi.1[(rd (ltOf X.cf) dk a' b' lim wb wp).pivot]!) = false := h87a
                    -- the partition; then the smaller side by a call of itself
                    obtain ⟨mid, ap, d4, hx⟩ : ∃ mid ap d4, partition (ltOf X.cf) (rd (ltOf X.cf) dk a' b' lim wb wp).pi.1 a' b' (rd (ltOf X.cf) dk a' b' lim wb wp).pivot = (mid, ap, d4) := ⟨(partition (ltOf X.cf) (rd (ltOf X.cf) dk a' b' lim wb wp).pi.1 a' b' (rd (ltOf X.cf) dk a' b' lim wb wp).pivot).1, (partition (ltOf X.cf) (rd (ltOf X.cf) dk a' b' lim wb wp).pi.1 a' b' (rd (ltOf X.cf) dk a' b' lim wb wp).pivot).2.1, (partition (ltOf X.cf) (rd (ltOf X.cf) dk a' b' lim wb wp).pi.1 a' b' (rd (ltOf X.cf) dk a' b' lim wb wp).pivot).2.2, rfl⟩
                    obtain ⟨r1, r2, r3, r4, r5, r6, r7⟩ := round_part hO (partition_holds (ltOf X.cf)) hpv.1 hpv.2 (show b' ≤ (rd (ltOf X.cf) dk a' b' lim wb wp).pi.1.size by omega) B3 hx
                    have hc22 := partitionCmpFunc_x (X := X) a' b' (rd (ltOf X.cf) dk a' b' lim wb wp).pivot (rd (ltOf X.cf) dk a' b' lim wb wp).pi.1 w6 hAt6 hpv.1 hpv.2 (by omega) (by omega)
                    rw [hx, show (rd (ltOf X.cf) dk a' b' lim wb wp).pi.1.size = d.size from s3.trans hds] at hc22
                    have XA : Aside (partition (ltOf X.cf) (rd (ltOf X.cf) dk a' b' lim wb wp).pi.1 a' b' (rd (ltOf X.cf) dk a' b' lim wb wp).pivot = (mid, ap, d4)) := hx
                    clear hx
                    go_upto_if 125 with (go_at_call 115; refine hc22.mono ?_; rintro e w7 ⟨rfl, hAt7⟩)
                    have hx := XA.out
                    have hs4 : d4.size = d.size := r3.trans (s3.trans hds)
                    by_cases h4 : mid - a' < b' - mid
                    · have h4z : (mid : Int) - (a' : Int) < (b' : Int) - (mid : Int) := by omega
                      have hih := ih a' mid (rd (ltOf X.cf) dk a' b' lim wb wp).lim d4 w7 (by omega) hAt7 (by omega) (by omega) (by omega) (Nat.lt_of_le_of_lt (Nat.le_trans rd_lim_le hlim) hlimit) r4
                      rw [hs4] at hih
                      obtain ⟨pL, sL⟩ := pdq_sorts (ltOf X.cf) hO d4 a' mid (rd (ltOf X.cf) dk a' b' lim wb wp).lim true true (by omega) (by omega) r4
                      go_wp2_with (go_at_call 105; refine hih.mono ?_; rintro e w8 ⟨rfl, hw8⟩)
                      go_roundg (b' - (mid + 1))
                      case measure => omega
                      case rel =>
                        refine ⟨mid + 1, b', (rd (ltOf X.cf) dk a' b' lim wb wp).lim, decide (mid - a' ≥ (b' - a') / 8), ap, pdq (ltOf X.cf) d4 a' mid (rd (ltOf X.cf) dk a' b' lim wb wp).lim true true, by simp, rfl, rfl, ?_, rfl, by omega, by omega, Nat.le_refl _, by omega, Nat.le_trans rd_lim_le hlim, by rw [pL.1, hs4], (r6 _ pL sL).1, hw8, ?_⟩
                        · exact congrArg Value.bool (eighth (by omega) (by omega))
                        · rw [← A.out, pdq_left h12 hl0 hp2 h87 (by rw [hx]; exact ⟨r1, r2⟩) (by rw [hx]; exact h4), hx]
                    · have h4z : ¬ ((mid : Int) - (a' : Int) < (b' : Int) - (mid : Int)) := by omega
                      have hih := ih (mid + 1) b' (rd (ltOf X.cf) dk a' b' lim wb wp).lim d4 w7 (by omega) hAt7 (by omega) (by omega) (by omega) (Nat.lt_of_le_of_lt (Nat.le_trans rd_lim_le hlim) hlimit) r5
                      rw [show ((mid + 1 : Nat) : Int) = (mid : Int) + 1 by omega, hs4] at hih
                      obtain ⟨pL, sL⟩ := pdq_sorts (ltOf X.cf) hO d4 (mid + 1) b' (rd (ltOf X.cf) dk a' b' lim wb wp).lim true true (by omega) (by omega) r5
                      go_wp2_with (go_at_call 105; refine hih.mono ?_; rintro e w8 ⟨rfl, hw8⟩)
                      go_roundg (mid - a')
                      case measure => omega
                      case rel =>
                        refine ⟨a', mid, (rd (ltOf X.cf) dk a' b' lim wb wp).lim, decide (b' - mid ≥ (b' - a') / 8), ap, pdq (ltOf X.cf) d4 (mid + 1) b' (rd (ltOf X.cf) dk a' b' lim wb wp).lim true true, rfl, rfl, rfl, ?_, rfl, by omega, by omega, Nat.le_refl _, by omega, Nat.le_trans rd_lim_le hlim, by rw [pL.1, hs4], (r7 _ pL sL).1, hw8, ?_⟩
                        · exact congrArg Value.bool (eighth (by omega) (by omega))
                        · rw [← A.out, pdq_right h12 hl0 hp2 h87 (by rw [hx]; exact ⟨r1, r2⟩) (by rw [hx]; exact h4), hx]
                  · have ha0z : (a' : Int) > 0 := by omega
                    obtain ⟨ap, hap⟩ : ∃ q, q + 1 = a' := ⟨a' - 1, by omega⟩
                    have zap : (a' : Int) = (ap : Int) + 1 := by omega
                    have ha0d' : decide ((ap : Int) + 1 > 0) = true := decide_eq_true (by omega)
                    cases hlv : (ltOf X.cf) (rd (ltOf X.cf) dk a' b' lim wb wp).pi.1[a' - 1]! (rd (ltOf X.cf) dk a' b' lim wb wp).pi.1[(rd (ltOf X.cf) dk a' b' lim wb wp).pivot]! with
                    | true =>
                      obtain ⟨iN1240, hiN1240⟩ : ∃ q, q = a' - 1 := ⟨_, rfl⟩
                      obtain ⟨jN1240, hjN1240⟩ : ∃ q, q = (rd (ltOf X.cf) dk a' b' lim wb wp).pivot := ⟨_, rfl⟩
                      have ea1240 : ((ap : Int)).toNat = iN1240 := by omega
                      have pa1240 : (0 : Int) ≤ (ap : Int) := by omega
                      have ba1240 : (ap : Int) < (d.size : Int) := by omega
                      have ra1240 : IntKind.i64.wrap ((ap : Int)) = (ap : Int) := by rw [IntKind.wrap_i64]; omega
                      have ec1240 : (((rd (ltOf X.cf) dk a' b' lim wb wp).pivot : Int)).toNat = jN1240 := by omega
                      have pc1240 : (0 : Int) ≤ ((rd (ltOf X.cf) dk a' b' lim wb wp).pivot : Int) := by omega
                      have bc1240 : ((rd (ltOf X.cf) dk a' b' lim wb wp).pivot : Int) < (d.size : Int) := by omega
                      have rc1240 : IntKind.i64.wrap (((rd (ltOf X.cf) dk a' b' lim wb wp).pivot : Int)) = ((rd (ltOf X.cf) dk a' b' lim wb wp).pivot : Int) := by rw [IntKind.wrap_i64]; omega
                      obtain ⟨x1240, hx1240⟩ : ∃ x, x = (rd (ltOf X.cf) dk a' b' lim wb wp).pi.1[a' - 1]! := ⟨_, rfl⟩
                      obtain ⟨y1240, hy1240⟩ : ∃ x, x = (rd (ltOf X.cf) dk a' b' lim wb wp).pi.1[(rd (ltOf X.cf) dk a' b' lim wb wp).pivot]! := ⟨_, rfl⟩
                      have l1240a := S5.out.drew.c1 (a' - 1) (by omega)
                      have l1240b := S5.out.drew.c1 ((rd (ltOf X.cf) dk a' b' lim wb wp).pivot) (by omega)
                      rw [← hx1240, ← hiN1240] at l1240a
                      rw [← hy1240, ← hjN1240] at l1240b
                      have hc1240 := S5.out.drew.cmp (a' - 1) ((rd (ltOf X.cf) dk a' b' lim wb wp).pivot) (by omega) (by omega)
                      rw [← hx1240, ← hy1240] at hc1240
                      have hv1240 : X.cf x1240 y1240 < 0 := by rw [hx1240, hy1240]; exact of_decide_eq_true hlv
                      have hd1240 : decide (X.cf x1240 y1240 < 0) = true := decide_eq_true hv1240
                      clear hx1240 hy1240 hiN1240 hjN1240
                      go_wp2_with fail
                      (refine wp_region_still_tail 13 (by kernel_rfl) (by kernel_rfl) ?_; simp only [List.take_succ_cons, List.take_zero, List.drop_succ_cons, List.drop_zero]; (repeat still_step); refine wpStill_nil ?_)
                      change wpList _ _ _ _ _ wc.drew
                      refine wpList_gen fun Qq hQq => ?_
                      go_wp2_with (go_at_call 78; go_must (refine hc1240.mono ?_; rintro e1q w6 ⟨rfl, S2q, E2q⟩; have S6 : Aside (SX X (rd (ltOf X.cf) dk a' b' lim wb wp).pi.1 w6) := S2q; clear l1240a l1240b hc1240 S5 ea1240 ec1240 S2q E2q))
                      obtain rfl := hQq.out
                      clear hQq
                      simp only [← zap]
                      clear zap hap ha0d'
                      have hAt6 := S6.out
                      clear S6
                      have h87 : (decide (a' > 0) && !(ltOf X.cf) (rd (ltOf X.cf) dk a' b' lim wb wp).pi.1[a' - 1]! (rd (ltOf X.cf) dk a' b' lim wb wp).pi.1[(rd (ltOf X.cf) dk a' b' lim wb wp).pivot]!) = false := by simp [hlv]
                      -- the partition; then the smaller side by a call of itself
                      obtain ⟨mid, ap, d4, hx⟩ : ∃ mid ap d4, partition (ltOf X.cf) (rd (ltOf X.cf) dk a' b' lim wb wp).pi.1 a' b' (rd (ltOf X.cf) dk a' b' lim wb wp).pivot = (mid, ap, d4) := ⟨(partition (ltOf X.cf) (rd (ltOf X.cf) dk a' b' lim wb wp).pi.1 a' b' (rd (ltOf X.cf) dk a' b' lim wb wp).pivot).1, (partition (ltOf X.cf) (rd (ltOf X.cf) dk a' b' lim wb wp).pi.1 a' b' (rd (ltOf X.cf) dk a' b' lim wb wp).pivot).2.1, (partition (ltOf X.cf) (rd (ltOf X.cf) dk a' b' lim wb wp).pi.1 a' b' (rd (ltOf X.cf) dk a' b' lim wb wp).pivot).2.2, rfl⟩
                      obtain ⟨r1, r2, r3, r4, r5, r6, r7⟩ := round_part hO (partition_holds (ltOf X.cf)) hpv.1 hpv.2 (show b' ≤ (rd (ltOf X.cf) dk a' b' lim wb wp).pi.1.size by omega) B3 hx
                      have hc22 := partitionCmpFunc_x (X := X) a' b' (rd (ltOf X.cf) dk a' b' lim wb wp).pivot (rd (ltOf X.cf) dk a' b' lim wb wp).pi.1 w6 hAt6 hpv.1 hpv.2 (by omega) (by omega)
                      rw [hx, show (rd (ltOf X.cf) dk a' b' lim wb wp).pi.1.size = d.size from s3.trans hds] at hc22
                      have XA : Aside (partition (ltOf X.cf) (rd (ltOf X.cf) dk a' b' lim wb wp).pi.1 a' b' (rd (ltOf X.cf) dk a' b' lim wb wp).pivot = (mid, ap, d4)) := hx
                      clear hx
                      go_upto_if 125 with (go_at_call 115; refine hc22.mono ?_; rintro e w7 ⟨rfl, hAt7⟩)
                      have hx := XA.out
                      have hs4 : d4.size = d.size := r3.trans (s3.trans hds)
                      by_cases h4 : mid - a' < b' - mid
                      · have h4z : (mid : Int) - (a' : Int) < (b' : Int) - (mid : Int) := by omega
                        have hih := ih a' mid (rd (ltOf X.cf) dk a' b' lim wb wp).lim d4 w7 (by omega) hAt7 (by omega) (by omega) (by omega) (Nat.lt_of_le_of_lt (Nat.le_trans rd_lim_le hlim) hlimit) r4
                        rw [hs4] at hih
                        obtain ⟨pL, sL⟩ := pdq_sorts (ltOf X.cf) hO d4 a' mid (rd (ltOf X.cf) dk a' b' lim wb wp).lim true true (by omega) (by omega) r4
                        go_wp2_with (go_at_call 105; refine hih.mono ?_; rintro e w8 ⟨rfl, hw8⟩)
                        go_roundg (b' - (mid + 1))
                        case measure => omega
                        case rel =>
                          refine ⟨mid + 1, b', (rd (ltOf X.cf) dk a' b' lim wb wp).lim, decide (mid - a' ≥ (b' - a') / 8), ap, pdq (ltOf X.cf) d4 a' mid (rd (ltOf X.cf) dk a' b' lim wb wp).lim true true, by simp, rfl, rfl, ?_, rfl, by omega, by omega, Nat.le_refl _, by omega, Nat.le_trans rd_lim_le hlim, by rw [pL.1, hs4], (r6 _ pL sL).1, hw8, ?_⟩
                          · exact congrArg Value.bool (eighth (by omega) (by omega))
                          · rw [← A.out, pdq_left h12 hl0 hp2 h87 (by rw [hx]; exact ⟨r1, r2⟩) (by rw [hx]; exact h4), hx]
                      · have h4z : ¬ ((mid : Int) - (a' : Int) < (b' : Int) - (mid : Int)) := by omega
                        have hih := ih (mid + 1) b' (rd (ltOf X.cf) dk a' b' lim wb wp).lim d4 w7 (by omega) hAt7 (by omega) (by omega) (by omega) (Nat.lt_of_le_of_lt (Nat.le_trans rd_lim_le hlim) hlimit) r5
                        rw [show ((mid + 1 : Nat) : Int) = (mid : Int) + 1 by omega, hs4] at hih
                        obtain ⟨pL, sL⟩ := pdq_sorts (ltOf X.cf) hO d4 (mid + 1) b' (rd (ltOf X.cf) dk a' b' lim wb wp).lim true true (by omega) (by omega) r5
                        go_wp2_with (go_at_call 105; refine hih.mono ?_; rintro e w8 ⟨rfl, hw8⟩)
                        go_roundg (mid - a')
                        case measure => omega
                        case rel =>
                          refine ⟨a', mid, (rd (ltOf X.cf) dk a' b' lim wb wp).lim, decide (b' - mid ≥ (b' - a') / 8), ap, pdq (ltOf X.cf) d4 (mid + 1) b' (rd (ltOf X.cf) dk a' b' lim wb wp).lim true true, rfl, rfl, rfl, ?_, rfl, by omega, by omega, Nat.le_refl _, by omega, Nat.le_trans rd_lim_le hlim, by rw [pL.1, hs4], (r7 _ pL sL).1, hw8, ?_⟩
                          · exact congrArg Value.bool (eighth (by omega) (by omega))
                          · rw [← A.out, pdq_right h12 hl0 hp2 h87 (by rw [hx]; exact ⟨r1, r2⟩) (by rw [hx]; exact h4), hx]
                    | false =>
                      obtain ⟨iN1241, hiN1241⟩ : ∃ q, q = a' - 1 := ⟨_, rfl⟩
                      obtain ⟨jN1241, hjN1241⟩ : ∃ q, q = (rd (ltOf X.cf) dk a' b' lim wb wp).pivot := ⟨_, rfl⟩
                      have ea1241 : ((ap : Int)).toNat = iN1241 := by omega
                      have pa1241 : (0 : Int) ≤ (ap : Int) := by omega
                      have ba1241 : (ap : Int) < (d.size : Int) := by omega
                      have ra1241 : IntKind.i64.wrap ((ap : Int)) = (ap : Int) := by rw [IntKind.wrap_i64]; omega
                      have ec1241 : (((rd (ltOf X.cf) dk a' b' lim wb wp).pivot : Int)).toNat = jN1241 := by omega
                      have pc1241 : (0 : Int) ≤ ((rd (ltOf X.cf) dk a' b' lim wb wp).pivot : Int) := by omega
                      have bc1241 : ((rd (ltOf X.cf) dk a' b' lim wb wp).pivot : Int) < (d.size : Int) := by omega
                      have rc1241 : IntKind.i64.wrap (((rd (ltOf X.cf) dk a' b' lim wb wp).pivot : Int)) = ((rd (ltOf X.cf) dk a' b' lim wb wp).pivot : Int) := by rw [IntKind.wrap_i64]; omega
                      obtain ⟨x1241, hx1241⟩ : ∃ x, x = (rd (ltOf X.cf) dk a' b' lim wb wp).pi.1[a' - 1]! := ⟨_, rfl⟩
                      obtain ⟨y1241, hy1241⟩ : ∃ x, x = (rd (ltOf X.cf) dk a' b' lim wb wp).pi.1[(rd (ltOf X.cf) dk a' b' lim wb wp).pivot]! := ⟨_, rfl⟩
                      have l1241a := S5.out.drew.c1 (a' - 1) (by omega)
                      have l1241b := S5.out.drew.c1 ((rd (ltOf X.cf) dk a' b' lim wb wp).pivot) (by omega)
                      rw [← hx1241, ← hiN1241] at l1241a
                      rw [← hy1241, ← hjN1241] at l1241b
                      have hc1241 := S5.out.drew.cmp (a' - 1) ((rd (ltOf X.cf) dk a' b' lim wb wp).pivot) (by omega) (by omega)
                      rw [← hx1241, ← hy1241] at hc1241
                      have hv1241 : ¬ X.cf x1241 y1241 < 0 := by rw [hx1241, hy1241]; exact of_decide_eq_false hlv
                      have hd1241 : decide (X.cf x1241 y1241 < 0) = false := decide_eq_false hv1241
                      clear hx1241 hy1241 hiN1241 hjN1241
                      go_wp2_with fail
                      (refine wp_region_still_tail 13 (by kernel_rfl) (by kernel_rfl) ?_; simp only [List.take_succ_cons, List.take_zero, List.drop_succ_cons, List.drop_zero]; (repeat still_step); refine wpStill_nil ?_)
                      change wpList _ _ _ _ _ wc.drew
                      refine wpList_gen fun Qq hQq => ?_
                      go_wp2_with (go_at_call 78; go_must (refine hc1241.mono ?_; rintro e1q w6 ⟨rfl, S2q, E2q⟩; have S6 : Aside (SX X (rd (ltOf X.cf) dk a' b' lim wb wp).pi.1 w6) := S2q; clear l1241a l1241b hc1241 S5 ea1241 ec1241 S2q E2q))
                      obtain rfl := hQq.out
                      clear hQq
                      simp only [← zap]
                      clear zap hap ha0d'
                      have hAt6 := S6.out
                      clear S6
                      have h87 : (decide (a' > 0) && !(ltOf X.cf) (rd (ltOf X.cf) dk a' b' lim wb wp).pi.1[a' - 1]! (rd (ltOf X.cf) dk a' b' lim wb wp).pi.1[(rd (ltOf X.cf) dk a' b' lim wb wp).pivot]!) = true := by simp [ha0, hlv]
                      -- the partition of equals
                      have h87' := h87
                      simp only [Bool.and_eq_true, decide_eq_true_eq, Bool.not_eq_true'] at h87'
                      obtain ⟨mid, d4, hx⟩ : ∃ mid d4, partitionEqual (ltOf X.cf) (rd (ltOf X.cf) dk a' b' lim wb wp).pi.1 a' b' (rd (ltOf X.cf) dk a' b' lim wb wp).pivot = (mid, d4) := ⟨(partitionEqual (ltOf X.cf) (rd (ltOf X.cf) dk a' b' lim wb wp).pi.1 a' b' (rd (ltOf X.cf) dk a' b' lim wb wp).pivot).1, (partitionEqual (ltOf X.cf) (rd (ltOf X.cf) dk a' b' lim wb wp).pi.1 a' b' (rd (ltOf X.cf) dk a' b' lim wb wp).pivot).2, rfl⟩
                      obtain ⟨r1, r2, r3, r4, _⟩ := round_eq hO (partitionEqual_holds (ltOf X.cf)) h87'.1 hpv.1 hpv.2 (show b' ≤ (rd (ltOf X.cf) dk a' b' lim wb wp).pi.1.size by omega) B3 h87'.2 hx
                      have hc21 := partitionEqualCmpFunc_x (X := X) a' b' (rd (ltOf X.cf) dk a' b' lim wb wp).pivot (rd (ltOf X.cf) dk a' b' lim wb wp).pi.1 w6 hAt6 hpv.1 hpv.2 (by omega) (by omega)
                      rw [hx, show (rd (ltOf X.cf) dk a' b' lim wb wp).pi.1.size = d.size from s3.trans hds] at hc21
                      have XA : Aside (partitionEqual (ltOf X.cf) (rd (ltOf X.cf) dk a' b' lim wb wp).pi.1 a' b' (rd (ltOf X.cf) dk a' b' lim wb wp).pivot = (mid, d4)) := hx
                      clear hx
                      go_wp2_with (go_at_call 114; refine hc21.mono ?_; rintro e w7 ⟨rfl, hw7⟩)
                      go_roundg (b' - mid)
                      case measure => omega
                      case rel =>
                        have hx := XA.out
                        exact ⟨mid, b', (rd (ltOf X.cf) dk a' b' lim wb wp).lim, wb, wp, d4, rfl, rfl, rfl, rfl, rfl, r2, hb', Nat.le_refl _, by omega, Nat.le_trans rd_lim_le hlim, by rw [r3, s3, hds], r4, hw7, by rw [← A.out, pdq_eq h12 hl0 hp2 h87 (by rw [hx]; exact ⟨r1, r2⟩), hx]⟩
end Go.Proofs.Ytgchfbfgjanaiaa
