/- slices.SortFunc of places (SiftDown1): after the kit's walk at a comparison that turns nothing -/
import Derived.Test.YtgchfbfgjanaiaaJ07
import Derived.Sort.WalkB2
import Derived.Sort.WalkB12
import Derived.Deep.LoopGhost
set_option linter.unusedSimpArgs false
set_option linter.unusedVariables false
namespace Go.Proofs.Ytgchfbfgjanaiaa
open Go.RowKit Go.Lib Go.Sort Sr
variable {X : SC}
set_option maxHeartbeats 8000000 in
set_option maxRecDepth 1000000 in
theorem siftDownCmpFunc_x (lo hi first : Nat) (d : Array Nat) (w : World)
    (S : SX X d w) (hlo : lo ≤ hi) (hb : first + hi ≤ d.size) (hsz : d.size < 4611686018427387904) :
    Calls Try.prog 118 #[.slice (some ⟨X.blk, 0, none⟩) d.size X.cap, .int .i64 lo, .int .i64 hi, .int .i64 first, .func (.func 78) #[.pointer (some ⟨X.b.p, 0, none⟩)] #[]] w fun e w' =>
      e = .returned (.tuple #[]) ∧ SX X (siftDown (ltOf X.cf) hi first lo d) w' := by
  have hcl0 := oneN.cells
  simp only [Value.cells] at hcl0
  have hst := oneN.store Try.prog
  have S0 : Aside _ := S
  clear S
  go_enter Try.func118, Try.ntmps118
  go_wp2
  go_loopg [10] (hi - lo) (fun kx s10 wr => ∃ (root : Nat) (dk : Array Nat), s10 = .int .i64 root ∧ root ≤ hi ∧ hi - root ≤ kx ∧ dk.size = d.size ∧ Aside (SX X dk wr) ∧ Hid (siftDown (ltOf X.cf) hi first root dk = siftDown (ltOf X.cf) hi first lo d))
  case atStart => exact ⟨lo, d, rfl, hlo, Nat.le_refl _, rfl, S0, rfl⟩
  case round =>
    obtain ⟨root, dk, rfl, hr, hkx, hds, S1, HE⟩ := hrel
    clear S0
    by_cases h0 : hi ≤ 2 * root + 1
    · -- no child: the loop is left
      have h0z : (hi : Int) ≤ 2 * (root : Int) + 1 := by omega
      go_wp2
      go_end0
      refine ⟨rfl, ?_⟩
      rw [← HE.out, sd_end (ltOf X.cf) dk h0]
      exact S1.out
    · have h0z : ¬ ((hi : Int) ≤ 2 * (root : Int) + 1) := by omega
      have rch : IntKind.i64.wrap (2 * (root : Int) + 1 + 1) = 2 * (root : Int) + 1 + 1 := by rw [IntKind.wrap_i64]; omega
      by_cases h1 : 2 * root + 2 < hi
      · -- there is a right child: 'cmp(data[first+child], data[first+child+1]) < 0'
        have h1z : 2 * (root : Int) + 1 + 1 < (hi : Int) := by omega
        cases hL : ltOf X.cf dk[first + (2 * root + 1)]! dk[first + (2 * root + 2)]! with
        | true =>
          obtain ⟨iN1182, hiN1182⟩ : ∃ q, q = first + (2 * root + 1) := ⟨_, rfl⟩
          obtain ⟨jN1182, hjN1182⟩ : ∃ q, q = first + (2 * root + 2) := ⟨_, rfl⟩
          have ea1182 : ((first : Int) + (2 * (root : Int) + 1)).toNat = iN1182 := by omega
          have pa1182 : (0 : Int) ≤ (first : Int) + (2 * (root : Int) + 1) := by omega
          have ba1182 : (first : Int) + (2 * (root : Int) + 1) < (d.size : Int) := by omega
          have ra1182 : IntKind.i64.wrap ((first : Int) + (2 * (root : Int) + 1)) = (first : Int) + (2 * (root : Int) + 1) := by rw [IntKind.wrap_i64]; omega
          have ec1182 : ((first : Int) + (2 * (root : Int) + 1) + 1).toNat = jN1182 := by omega
          have pc1182 : (0 : Int) ≤ (first : Int) + (2 * (root : Int) + 1) + 1 := by omega
          have bc1182 : (first : Int) + (2 * (root : Int) + 1) + 1 < (d.size : Int) := by omega
          have rc1182 : IntKind.i64.wrap ((first : Int) + (2 * (root : Int) + 1) + 1) = (first : Int) + (2 * (root : Int) + 1) + 1 := by rw [IntKind.wrap_i64]; omega
          obtain ⟨x1182, hx1182⟩ : ∃ x, x = dk[first + (2 * root + 1)]! := ⟨_, rfl⟩
          obtain ⟨y1182, hy1182⟩ : ∃ x, x = dk[first + (2 * root + 2)]! := ⟨_, rfl⟩
          have l1182a := S1.out.drew.c1 (first + (2 * root + 1)) (by omega)
          have l1182b := S1.out.drew.c1 (first + (2 * root + 2)) (by omega)
          rw [← hx1182, ← hiN1182] at l1182a
          rw [← hy1182, ← hjN1182] at l1182b
          have hc1182 := S1.out.drew.cmp (first + (2 * root + 1)) (first + (2 * root + 2)) (by omega) (by omega)
          rw [← hx1182, ← hy1182] at hc1182
          have hv1182 : X.cf x1182 y1182 < 0 := by rw [hx1182, hy1182]; exact of_decide_eq_true hL
          have hd1182 : decide (X.cf x1182 y1182 < 0) = true := decide_eq_true hv1182
          clear hx1182 hy1182 hiN1182 hjN1182
          go_wp2_with fail
          first | (refine wp_region_still_tail 19 (by kernel_rfl) (by kernel_rfl) ?_; simp only [List.take_succ_cons, List.take_zero, List.drop_succ_cons, List.drop_zero]; (repeat still_step); refine wpStill_nil ?_) | (refine wp_region_still_tail 13 (by kernel_rfl) (by kernel_rfl) ?_; simp only [List.take_succ_cons, List.take_zero, List.drop_succ_cons, List.drop_zero]; (repeat still_step); refine wpStill_nil ?_)
          change wpList _ _ _ _ _ wr.drew
          refine wpList_gen fun Qq hQq => ?_
          go_wp2_with (go_at_call 78; go_must (refine hc1182.mono ?_; rintro e1q w2 ⟨rfl, S2q, E2q⟩; have S2 : Aside (SX X dk w2) := S2q; clear l1182a l1182b hc1182 S1 ea1182 ec1182 S2q E2q))
          obtain rfl := hQq.out
          clear hQq
          go_wp2_with fail
          cases hG : ltOf X.cf dk[first + root]! dk[first + (2 * root + 2)]! with
          | true =>
            obtain ⟨iN1183, hiN1183⟩ : ∃ q, q = first + root := ⟨_, rfl⟩
            obtain ⟨jN1183, hjN1183⟩ : ∃ q, q = first + (2 * root + 2) := ⟨_, rfl⟩
            have ea1183 : ((first : Int) + (root : Int)).toNat = iN1183 := by omega
            have pa1183 : (0 : Int) ≤ (first : Int) + (root : Int) := by omega
            have ba1183 : (first : Int) + (root : Int) < (d.size : Int) := by omega
            have ra1183 : IntKind.i64.wrap ((first : Int) + (root : Int)) = (first : Int) + (root : Int) := by rw [IntKind.wrap_i64]; omega
            have ec1183 : ((first : Int) + (2 * (root : Int) + 1 + 1)).toNat = jN1183 := by omega
            have pc1183 : (0 : Int) ≤ (first : Int) + (2 * (root : Int) + 1 + 1) := by omega
            have bc1183 : (first : Int) + (2 * (root : Int) + 1 + 1) < (d.size : Int) := by omega
            have rc1183 : IntKind.i64.wrap ((first : Int) + (2 * (root : Int) + 1 + 1)) = (first : Int) + (2 * (root : Int) + 1 + 1) := by rw [IntKind.wrap_i64]; omega
            obtain ⟨x1183, hx1183⟩ : ∃ x, x = dk[first + root]! := ⟨_, rfl⟩
            obtain ⟨y1183, hy1183⟩ : ∃ x, x = dk[first + (2 * root + 2)]! := ⟨_, rfl⟩
            have l1183a := S2.out.drew.c1 (first + root) (by omega)
            have l1183b := S2.out.drew.c1 (first + (2 * root + 2)) (by omega)
            rw [← hx1183, ← hiN1183] at l1183a
            rw [← hy1183, ← hjN1183] at l1183b
            have hc1183 := S2.out.drew.cmp (first + root) (first + (2 * root + 2)) (by omega) (by omega)
            rw [← hx1183, ← hy1183] at hc1183
            have hv1183 : X.cf x1183 y1183 < 0 := by rw [hx1183, hy1183]; exact of_decide_eq_true hG
            have hd1183 : decide (X.cf x1183 y1183 < 0) = true := decide_eq_true hv1183
            clear hx1183 hy1183 hiN1183 hjN1183
            go_wp2_with fail
            first | (refine wp_region_still_tail 19 (by kernel_rfl) (by kernel_rfl) ?_; simp only [List.take_succ_cons, List.take_zero, List.drop_succ_cons, List.drop_zero]; (repeat still_step); refine wpStill_nil ?_) | (refine wp_region_still_tail 13 (by kernel_rfl) (by kernel_rfl) ?_; simp only [List.take_succ_cons, List.take_zero, List.drop_succ_cons, List.drop_zero]; (repeat still_step); refine wpStill_nil ?_)
            change wpList _ _ _ _ _ w2.drew
            refine wpList_gen fun Qq hQq => ?_
            go_wp2_with (go_at_call 78; go_must (refine hc1183.mono ?_; rintro e1q w3 ⟨rfl, S2q, E2q⟩; have S3 : Aside (SX X dk w3) := S2q; clear l1183a l1183b hc1183 S2 ea1183 ec1183 S2q E2q))
            obtain rfl := hQq.out
            clear hQq
            obtain ⟨iN1184, hiN1184⟩ : ∃ q, q = first + root := ⟨_, rfl⟩
            obtain ⟨jN1184, hjN1184⟩ : ∃ q, q = first + (2 * root + 2) := ⟨_, rfl⟩
            have ea1184 : ((first : Int) + (root : Int)).toNat = iN1184 := by omega
            have pa1184 : (0 : Int) ≤ (first : Int) + (root : Int) := by omega
            have ba1184 : (first : Int) + (root : Int) < (d.size : Int) := by omega
            have ra1184 : IntKind.i64.wrap ((first : Int) + (root : Int)) = (first : Int) + (root : Int) := by rw [IntKind.wrap_i64]; omega
            have ec1184 : ((first : Int) + (2 * (root : Int) + 1 + 1)).toNat = jN1184 := by omega
            have pc1184 : (0 : Int) ≤ (first : Int) + (2 * (root : Int) + 1 + 1) := by omega
            have bc1184 : (first : Int) + (2 * (root : Int) + 1 + 1) < (d.size : Int) := by omega
            have rc1184 : IntKind.i64.wrap ((first : Int) + (2 * (root : Int) + 1 + 1)) = (first : Int) + (2 * (root : Int) + 1 + 1) := by rw [IntKind.wrap_i64]; omega
            obtain ⟨x1184, hx1184⟩ : ∃ x, x = dk[first + root]! := ⟨_, rfl⟩
            obtain ⟨y1184, hy1184⟩ : ∃ x, x = dk[first + (2 * root + 2)]! := ⟨_, rfl⟩
            have S4 : Aside (SX X (swp dk (first + root) (first + (2 * root + 2))) ((w3.setCell ⟨X.blk, iN1184, none⟩ (encN y1184)).setCell ⟨X.blk, jN1184, none⟩ (encN x1184)).drew) := by rw [hiN1184, hjN1184, hx1184, hy1184]; exact S3.out.swapped (first + root) (first + (2 * root + 2)) (by omega) (by omega)
            have c1184a := S3.out.c1 (first + root) (by omega)
            have c1184b := S3.out.c1 (first + (2 * root + 2)) (by omega)
            have f1184a := S3.out.f1 (first + root) (by omega)
            have f1184b := S3.out.f1 (first + (2 * root + 2)) (by omega)
            obtain ⟨u1184, c1184c⟩ := S3.out.c2 (first + root) (first + (2 * root + 2)) (by omega) (by omega) (encN y1184)
            rw [← hjN1184, ← hiN1184] at c1184c
            rw [← hx1184, ← hiN1184] at c1184a
            rw [← hy1184, ← hjN1184] at c1184b
            rw [← hiN1184] at f1184a
            rw [← hjN1184] at f1184b
            clear S3 hx1184 hy1184 hiN1184 hjN1184
            go_wp2_with fail
            go_region
            clear c1184a c1184b c1184c f1184a f1184b
            generalize ((w3.setCell ⟨X.blk, iN1184, none⟩ (encN y1184)).setCell ⟨X.blk, jN1184, none⟩ (encN x1184)).drew = w4 at S4 ⊢
            clear ea1184 ec1184
            go_wp2
            go_roundg (hi - (2 * root + 2))
            case measure => omega
            case rel => exact ⟨2 * root + 2, swp dk (first + root) (first + (2 * root + 2)), by go_num, by omega, Nat.le_refl _, by rw [size_swp]; exact hds, S4, (show Hid _ from by rw [← HE.out, sd_right_go (ltOf X.cf) dk h1 hL hG]; exact rfl)⟩
          | false =>
            obtain ⟨iN1185, hiN1185⟩ : ∃ q, q = first + root := ⟨_, rfl⟩
            obtain ⟨jN1185, hjN1185⟩ : ∃ q, q = first + (2 * root + 2) := ⟨_, rfl⟩
            have ea1185 : ((first : Int) + (root : Int)).toNat = iN1185 := by omega
            have pa1185 : (0 : Int) ≤ (first : Int) + (root : Int) := by omega
            have ba1185 : (first : Int) + (root : Int) < (d.size : Int) := by omega
            have ra1185 : IntKind.i64.wrap ((first : Int) + (root : Int)) = (first : Int) + (root : Int) := by rw [IntKind.wrap_i64]; omega
            have ec1185 : ((first : Int) + (2 * (root : Int) + 1 + 1)).toNat = jN1185 := by omega
            have pc1185 : (0 : Int) ≤ (first : Int) + (2 * (root : Int) + 1 + 1) := by omega
            have bc1185 : (first : Int) + (2 * (root : Int) + 1 + 1) < (d.size : Int) := by omega
            have rc1185 : IntKind.i64.wrap ((first : Int) + (2 * (root : Int) + 1 + 1)) = (first : Int) + (2 * (root : Int) + 1 + 1) := by rw [IntKind.wrap_i64]; omega
            obtain ⟨x1185, hx1185⟩ : ∃ x, x = dk[first + root]! := ⟨_, rfl⟩
            obtain ⟨y1185, hy1185⟩ : ∃ x, x = dk[first + (2 * root + 2)]! := ⟨_, rfl⟩
            have l1185a := S2.out.drew.c1 (first + root) (by omega)
            have l1185b := S2.out.drew.c1 (first + (2 * root + 2)) (by omega)
            rw [← hx1185, ← hiN1185] at l1185a
            rw [← hy1185, ← hjN1185] at l1185b
            have hc1185 := S2.out.drew.cmp (first + root) (first + (2 * root + 2)) (by omega) (by omega)
            rw [← hx1185, ← hy1185] at hc1185
            have hv1185 : ¬ X.cf x1185 y1185 < 0 := by rw [hx1185, hy1185]; exact of_decide_eq_false hG
            have hd1185 : decide (X.cf x1185 y1185 < 0) = false := decide_eq_false hv1185
            clear hx1185 hy1185 hiN1185 hjN1185
            go_wp2_with fail
            first | (refine wp_region_still_tail 19 (by kernel_rfl) (by kernel_rfl) ?_; simp only [List.take_succ_cons, List.take_zero, List.drop_succ_cons, List.drop_zero]; (repeat still_step); refine wpStill_nil ?_) | (refine wp_region_still_tail 13 (by kernel_rfl) (by kernel_rfl) ?_; simp only [List.take_succ_cons, List.take_zero, List.drop_succ_cons, List.drop_zero]; (repeat still_step); refine wpStill_nil ?_)
            change wpList _ _ _ _ _ w2.drew
            refine wpList_gen fun Qq hQq => ?_
            go_wp2_with (go_at_call 78; go_must (refine hc1185.mono ?_; rintro e1q w3 ⟨rfl, S2q, E2q⟩; have S3 : Aside (SX X dk w3) := S2q; clear l1185a l1185b hc1185 S2 ea1185 ec1185 S2q E2q))
            obtain rfl := hQq.out
            clear hQq
            go_wp2
            (try simp only [Exit.inBlock, Exit.then]); refine bodyPost_ret (results_none rfl _ _ _) rfl ?_
            refine ⟨rfl, ?_⟩
            rw [← HE.out, sd_right_stop (ltOf X.cf) dk h1 hL hG]
            exact S3.out
        | false =>
          obtain ⟨iN1186, hiN1186⟩ : ∃ q, q = first + (2 * root + 1) := ⟨_, rfl⟩
          obtain ⟨jN1186, hjN1186⟩ : ∃ q, q = first + (2 * root + 2) := ⟨_, rfl⟩
          have ea1186 : ((first : Int) + (2 * (root : Int) + 1)).toNat = iN1186 := by omega
          have pa1186 : (0 : Int) ≤ (first : Int) + (2 * (root : Int) + 1) := by omega
          have ba1186 : (first : Int) + (2 * (root : Int) + 1) < (d.size : Int) := by omega
          have ra1186 : IntKind.i64.wrap ((first : Int) + (2 * (root : Int) + 1)) = (first : Int) + (2 * (root : Int) + 1) := by rw [IntKind.wrap_i64]; omega
          have ec1186 : ((first : Int) + (2 * (root : Int) + 1) + 1).toNat = jN1186 := by omega
          have pc1186 : (0 : Int) ≤ (first : Int) + (2 * (root : Int) + 1) + 1 := by omega
          have bc1186 : (first : Int) + (2 * (root : Int) + 1) + 1 < (d.size : Int) := by omega
          have rc1186 : IntKind.i64.wrap ((first : Int) + (2 * (root : Int) + 1) + 1) = (first : Int) + (2 * (root : Int) + 1) + 1 := by rw [IntKind.wrap_i64]; omega
          obtain ⟨x1186, hx1186⟩ : ∃ x, x = dk[first + (2 * root + 1)]! := ⟨_, rfl⟩
          obtain ⟨y1186, hy1186⟩ : ∃ x, x = dk[first + (2 * root + 2)]! := ⟨_, rfl⟩
          have l1186a := S1.out.drew.c1 (first + (2 * root + 1)) (by omega)
          have l1186b := S1.out.drew.c1 (first + (2 * root + 2)) (by omega)
          rw [← hx1186, ← hiN1186] at l1186a
          rw [← hy1186, ← hjN1186] at l1186b
          have hc1186 := S1.out.drew.cmp (first + (2 * root + 1)) (first + (2 * root + 2)) (by omega) (by omega)
          rw [← hx1186, ← hy1186] at hc1186
          have hv1186 : ¬ X.cf x1186 y1186 < 0 := by rw [hx1186, hy1186]; exact of_decide_eq_false hL
          have hd1186 : decide (X.cf x1186 y1186 < 0) = false := decide_eq_false hv1186
          clear hx1186 hy1186 hiN1186 hjN1186
          go_wp2_with fail
          first | (refine wp_region_still_tail 19 (by kernel_rfl) (by kernel_rfl) ?_; simp only [List.take_succ_cons, List.take_zero, List.drop_succ_cons, List.drop_zero]; (repeat still_step); refine wpStill_nil ?_) | (refine wp_region_still_tail 13 (by kernel_rfl) (by kernel_rfl) ?_; simp only [List.take_succ_cons, List.take_zero, List.drop_succ_cons, List.drop_zero]; (repeat still_step); refine wpStill_nil ?_)
          change wpList _ _ _ _ _ wr.drew
          refine wpList_gen fun Qq hQq => ?_
          go_wp2_with (go_at_call 78; go_must (refine hc1186.mono ?_; rintro e1q w2 ⟨rfl, S2q, E2q⟩; have S2 : Aside (SX X dk w2) := S2q; clear l1186a l1186b hc1186 S1 ea1186 ec1186 S2q E2q))
          obtain rfl := hQq.out
          clear hQq
          go_wp2_with fail
          cases hG : ltOf X.cf dk[first + root]! dk[first + (2 * root + 1)]! with
          | true =>
            obtain ⟨iN1187, hiN1187⟩ : ∃ q, q = first + root := ⟨_, rfl⟩
            obtain ⟨jN1187, hjN1187⟩ : ∃ q, q = first + (2 * root + 1) := ⟨_, rfl⟩
            have ea1187 : ((first : Int) + (root : Int)).toNat = iN1187 := by omega
            have pa1187 : (0 : Int) ≤ (first : Int) + (root : Int) := by omega
            have ba1187 : (first : Int) + (root : Int) < (d.size : Int) := by omega
            have ra1187 : IntKind.i64.wrap ((first : Int) + (root : Int)) = (first : Int) + (root : Int) := by rw [IntKind.wrap_i64]; omega
            have ec1187 : ((first : Int) + (2 * (root : Int) + 1)).toNat = jN1187 := by omega
            have pc1187 : (0 : Int) ≤ (first : Int) + (2 * (root : Int) + 1) := by omega
            have bc1187 : (first : Int) + (2 * (root : Int) + 1) < (d.size : Int) := by omega
            have rc1187 : IntKind.i64.wrap ((first : Int) + (2 * (root : Int) + 1)) = (first : Int) + (2 * (root : Int) + 1) := by rw [IntKind.wrap_i64]; omega
            obtain ⟨x1187, hx1187⟩ : ∃ x, x = dk[first + root]! := ⟨_, rfl⟩
            obtain ⟨y1187, hy1187⟩ : ∃ x, x = dk[first + (2 * root + 1)]! := ⟨_, rfl⟩
            have l1187a := S2.out.drew.c1 (first + root) (by omega)
            have l1187b := S2.out.drew.c1 (first + (2 * root + 1)) (by omega)
            rw [← hx1187, ← hiN1187] at l1187a
            rw [← hy1187, ← hjN1187] at l1187b
            have hc1187 := S2.out.drew.cmp (first + root) (first + (2 * root + 1)) (by omega) (by omega)
            rw [← hx1187, ← hy1187] at hc1187
            have hv1187 : X.cf x1187 y1187 < 0 := by rw [hx1187, hy1187]; exact of_decide_eq_true hG
            have hd1187 : decide (X.cf x1187 y1187 < 0) = true := decide_eq_true hv1187
            clear hx1187 hy1187 hiN1187 hjN1187
            go_wp2_with fail
            first | (refine wp_region_still_tail 19 (by kernel_rfl) (by kernel_rfl) ?_; simp only [List.take_succ_cons, List.take_zero, List.drop_succ_cons, List.drop_zero]; (repeat still_step); refine wpStill_nil ?_) | (refine wp_region_still_tail 13 (by kernel_rfl) (by kernel_rfl) ?_; simp only [List.take_succ_cons, List.take_zero, List.drop_succ_cons, List.drop_zero]; (repeat still_step); refine wpStill_nil ?_)
            change wpList _ _ _ _ _ w2.drew
            refine wpList_gen fun Qq hQq => ?_
            go_wp2_with (go_at_call 78; go_must (refine hc1187.mono ?_; rintro e1q w3 ⟨rfl, S2q, E2q⟩; have S3 : Aside (SX X dk w3) := S2q; clear l1187a l1187b hc1187 S2 ea1187 ec1187 S2q E2q))
            obtain rfl := hQq.out
            clear hQq
            obtain ⟨iN1188, hiN1188⟩ : ∃ q, q = first + root := ⟨_, rfl⟩
            obtain ⟨jN1188, hjN1188⟩ : ∃ q, q = first + (2 * root + 1) := ⟨_, rfl⟩
            have ea1188 : ((first : Int) + (root : Int)).toNat = iN1188 := by omega
            have pa1188 : (0 : Int) ≤ (first : Int) + (root : Int) := by omega
            have ba1188 : (first : Int) + (root : Int) < (d.size : Int) := by omega
            have ra1188 : IntKind.i64.wrap ((first : Int) + (root : Int)) = (first : Int) + (root : Int) := by rw [IntKind.wrap_i64]; omega
            have ec1188 : ((first : Int) + (2 * (root : Int) + 1)).toNat = jN1188 := by omega
            have pc1188 : (0 : Int) ≤ (first : Int) + (2 * (root : Int) + 1) := by omega
            have bc1188 : (first : Int) + (2 * (root : Int) + 1) < (d.size : Int) := by omega
            have rc1188 : IntKind.i64.wrap ((first : Int) + (2 * (root : Int) + 1)) = (first : Int) + (2 * (root : Int) + 1) := by rw [IntKind.wrap_i64]; omega
            obtain ⟨x1188, hx1188⟩ : ∃ x, x = dk[first + root]! := ⟨_, rfl⟩
            obtain ⟨y1188, hy1188⟩ : ∃ x, x = dk[first + (2 * root + 1)]! := ⟨_, rfl⟩
            have S4 : Aside (SX X (swp dk (first + root) (first + (2 * root + 1))) ((w3.setCell ⟨X.blk, iN1188, none⟩ (encN y1188)).setCell ⟨X.blk, jN1188, none⟩ (encN x1188)).drew) := by rw [hiN1188, hjN1188, hx1188, hy1188]; exact S3.out.swapped (first + root) (first + (2 * root + 1)) (by omega) (by omega)
            have c1188a := S3.out.c1 (first + root) (by omega)
            have c1188b := S3.out.c1 (first + (2 * root + 1)) (by omega)
            have f1188a := S3.out.f1 (first + root) (by omega)
            have f1188b := S3.out.f1 (first + (2 * root + 1)) (by omega)
            obtain ⟨u1188, c1188c⟩ := S3.out.c2 (first + root) (first + (2 * root + 1)) (by omega) (by omega) (encN y1188)
            rw [← hjN1188, ← hiN1188] at c1188c
            rw [← hx1188, ← hiN1188] at c1188a
            rw [← hy1188, ← hjN1188] at c1188b
            rw [← hiN1188] at f1188a
            rw [← hjN1188] at f1188b
            clear S3 hx1188 hy1188 hiN1188 hjN1188
            go_wp2_with fail
            go_region
            clear c1188a c1188b c1188c f1188a f1188b
            generalize ((w3.setCell ⟨X.blk, iN1188, none⟩ (encN y1188)).setCell ⟨X.blk, jN1188, none⟩ (encN x1188)).drew = w4 at S4 ⊢
            clear ea1188 ec1188
            go_wp2
            go_roundg (hi - (2 * root + 1))
            case measure => omega
            case rel => exact ⟨2 * root + 1, swp dk (first + root) (first + (2 * root + 1)), by go_num, by omega, Nat.le_refl _, by rw [size_swp]; exact hds, S4, (show Hid _ from by rw [← HE.out, sd_left_go (ltOf X.cf) dk (by omega) (fun _ => hL) hG]; exact rfl)⟩
          | false =>
            obtain ⟨iN1189, hiN1189⟩ : ∃ q, q = first + root := ⟨_, rfl⟩
            obtain ⟨jN1189, hjN1189⟩ : ∃ q, q = first + (2 * root + 1) := ⟨_, rfl⟩
            have ea1189 : ((first : Int) + (root : Int)).toNat = iN1189 := by omega
            have pa1189 : (0 : Int) ≤ (first : Int) + (root : Int) := by omega
            have ba1189 : (first : Int) + (root : Int) < (d.size : Int) := by omega
            have ra1189 : IntKind.i64.wrap ((first : Int) + (root : Int)) = (first : Int) + (root : Int) := by rw [IntKind.wrap_i64]; omega
            have ec1189 : ((first : Int) + (2 * (root : Int) + 1)).toNat = jN1189 := by omega
            have pc1189 : (0 : Int) ≤ (first : Int) + (2 * (root : Int) + 1) := by omega
            have bc1189 : (first : Int) + (2 * (root : Int) + 1) < (d.size : Int) := by omega
            have rc1189 : IntKind.i64.wrap ((first : Int) + (2 * (root : Int) + 1)) = (first : Int) + (2 * (root : Int) + 1) := by rw [IntKind.wrap_i64]; omega
            obtain ⟨x1189, hx1189⟩ : ∃ x, x = dk[first + root]! := ⟨_, rfl⟩
            obtain ⟨y1189, hy1189⟩ : ∃ x, x = dk[first + (2 * root + 1)]! := ⟨_, rfl⟩
            have l1189a := S2.out.drew.c1 (first + root) (by omega)
            have l1189b := S2.out.drew.c1 (first + (2 * root + 1)) (by omega)
            rw [← hx1189, ← hiN1189] at l1189a
            rw [← hy1189, ← hjN1189] at l1189b
            have hc1189 := S2.out.drew.cmp (first + root) (first + (2 * root + 1)) (by omega) (by omega)
            rw [← hx1189, ← hy1189] at hc1189
            have hv1189 : ¬ X.cf x1189 y1189 < 0 := by rw [hx1189, hy1189]; exact of_decide_eq_false hG
            have hd1189 : decide (X.cf x1189 y1189 < 0) = false := decide_eq_false hv1189
            clear hx1189 hy1189 hiN1189 hjN1189
            go_wp2_with fail
            first | (refine wp_region_still_tail 19 (by kernel_rfl) (by kernel_rfl) ?_; simp only [List.take_succ_cons, List.take_zero, List.drop_succ_cons, List.drop_zero]; (repeat still_step); refine wpStill_nil ?_) | (refine wp_region_still_tail 13 (by kernel_rfl) (by kernel_rfl) ?_; simp only [List.take_succ_cons, List.take_zero, List.drop_succ_cons, List.drop_zero]; (repeat still_step); refine wpStill_nil ?_)
            change wpList _ _ _ _ _ w2.drew
            refine wpList_gen fun Qq hQq => ?_
            go_wp2_with (go_at_call 78; go_must (refine hc1189.mono ?_; rintro e1q w3 ⟨rfl, S2q, E2q⟩; have S3 : Aside (SX X dk w3) := S2q; clear l1189a l1189b hc1189 S2 ea1189 ec1189 S2q E2q))
            obtain rfl := hQq.out
            clear hQq
            go_wp2
            (try simp only [Exit.inBlock, Exit.then]); refine bodyPost_ret (results_none rfl _ _ _) rfl ?_
            refine ⟨rfl, ?_⟩
            rw [← HE.out, sd_left_stop (ltOf X.cf) dk (by omega) (fun _ => hL) hG]
            exact S3.out
      · -- no right child: the guard is false: 'cmp' is not called
        have h1z : ¬ (2 * (root : Int) + 1 + 1 < (hi : Int)) := by omega
        have h1d : decide (2 * (root : Int) + 1 + 1 < (hi : Int)) = false := decide_eq_false h1z
        go_wp2_with fail
        go_region
        have S2 : Aside (SX X dk wr.drew) := S1.out.drew
        clear S1
        generalize wr.drew = w2 at S2 ⊢
        go_wp2_with fail
        cases hG : ltOf X.cf dk[first + root]! dk[first + (2 * root + 1)]! with
        | true =>
          obtain ⟨iN1190, hiN1190⟩ : ∃ q, q = first + root := ⟨_, rfl⟩
          obtain ⟨jN1190, hjN1190⟩ : ∃ q, q = first + (2 * root + 1) := ⟨_, rfl⟩
          have ea1190 : ((first : Int) + (root : Int)).toNat = iN1190 := by omega
          have pa1190 : (0 : Int) ≤ (first : Int) + (root : Int) := by omega
          have ba1190 : (first : Int) + (root : Int) < (d.size : Int) := by omega
          have ra1190 : IntKind.i64.wrap ((first : Int) + (root : Int)) = (first : Int) + (root : Int) := by rw [IntKind.wrap_i64]; omega
          have ec1190 : ((first : Int) + (2 * (root : Int) + 1)).toNat = jN1190 := by omega
          have pc1190 : (0 : Int) ≤ (first : Int) + (2 * (root : Int) + 1) := by omega
          have bc1190 : (first : Int) + (2 * (root : Int) + 1) < (d.size : Int) := by omega
          have rc1190 : IntKind.i64.wrap ((first : Int) + (2 * (root : Int) + 1)) = (first : Int) + (2 * (root : Int) + 1) := by rw [IntKind.wrap_i64]; omega
          obtain ⟨x1190, hx1190⟩ : ∃ x, x = dk[first + root]! := ⟨_, rfl⟩
          obtain ⟨y1190, hy1190⟩ : ∃ x, x = dk[first + (2 * root + 1)]! := ⟨_, rfl⟩
          have l1190a := S2.out.drew.c1 (first + root) (by omega)
          have l1190b := S2.out.drew.c1 (first + (2 * root + 1)) (by omega)
          rw [← hx1190, ← hiN1190] at l1190a
          rw [← hy1190, ← hjN1190] at l1190b
          have hc1190 := S2.out.drew.cmp (first + root) (first + (2 * root + 1)) (by omega) (by omega)
          rw [← hx1190, ← hy1190] at hc1190
          have hv1190 : X.cf x1190 y1190 < 0 := by rw [hx1190, hy1190]; exact of_decide_eq_true hG
          have hd1190 : decide (X.cf x1190 y1190 < 0) = true := decide_eq_true hv1190
          clear hx1190 hy1190 hiN1190 hjN1190
          go_wp2_with fail
          first | (refine wp_region_still_tail 19 (by kernel_rfl) (by kernel_rfl) ?_; simp only [List.take_succ_cons, List.take_zero, List.drop_succ_cons, List.drop_zero]; (repeat still_step); refine wpStill_nil ?_) | (refine wp_region_still_tail 13 (by kernel_rfl) (by kernel_rfl) ?_; simp only [List.take_succ_cons, List.take_zero, List.drop_succ_cons, List.drop_zero]; (repeat still_step); refine wpStill_nil ?_)
          change wpList _ _ _ _ _ w2.drew
          refine wpList_gen fun Qq hQq => ?_
          go_wp2_with (go_at_call 78; go_must (refine hc1190.mono ?_; rintro e1q w3 ⟨rfl, S2q, E2q⟩; have S3 : Aside (SX X dk w3) := S2q; clear l1190a l1190b hc1190 S2 ea1190 ec1190 S2q E2q))
          obtain rfl := hQq.out
          clear hQq
          obtain ⟨iN1191, hiN1191⟩ : ∃ q, q = first + root := ⟨_, rfl⟩
          obtain ⟨jN1191, hjN1191⟩ : ∃ q, q = first + (2 * root + 1) := ⟨_, rfl⟩
          have ea1191 : ((first : Int) + (root : Int)).toNat = iN1191 := by omega
          have pa1191 : (0 : Int) ≤ (first : Int) + (root : Int) := by omega
          have ba1191 : (first : Int) + (root : Int) < (d.size : Int) := by omega
          have ra1191 : IntKind.i64.wrap ((first : Int) + (root : Int)) = (first : Int) + (root : Int) := by rw [IntKind.wrap_i64]; omega
          have ec1191 : ((first : Int) + (2 * (root : Int) + 1)).toNat = jN1191 := by omega
          have pc1191 : (0 : Int) ≤ (first : Int) + (2 * (root : Int) + 1) := by omega
          have bc1191 : (first : Int) + (2 * (root : Int) + 1) < (d.size : Int) := by omega
          have rc1191 : IntKind.i64.wrap ((first : Int) + (2 * (root : Int) + 1)) = (first : Int) + (2 * (root : Int) + 1) := by rw [IntKind.wrap_i64]; omega
          obtain ⟨x1191, hx1191⟩ : ∃ x, x = dk[first + root]! := ⟨_, rfl⟩
          obtain ⟨y1191, hy1191⟩ : ∃ x, x = dk[first + (2 * root + 1)]! := ⟨_, rfl⟩
          have S4 : Aside (SX X (swp dk (first + root) (first + (2 * root + 1))) ((w3.setCell ⟨X.blk, iN1191, none⟩ (encN y1191)).setCell ⟨X.blk, jN1191, none⟩ (encN x1191)).drew) := by rw [hiN1191, hjN1191, hx1191, hy1191]; exact S3.out.swapped (first + root) (first + (2 * root + 1)) (by omega) (by omega)
          have c1191a := S3.out.c1 (first + root) (by omega)
          have c1191b := S3.out.c1 (first + (2 * root + 1)) (by omega)
          have f1191a := S3.out.f1 (first + root) (by omega)
          have f1191b := S3.out.f1 (first + (2 * root + 1)) (by omega)
          obtain ⟨u1191, c1191c⟩ := S3.out.c2 (first + root) (first + (2 * root + 1)) (by omega) (by omega) (encN y1191)
          rw [← hjN1191, ← hiN1191] at c1191c
          rw [← hx1191, ← hiN1191] at c1191a
          rw [← hy1191, ← hjN1191] at c1191b
          rw [← hiN1191] at f1191a
          rw [← hjN1191] at f1191b
          clear S3 hx1191 hy1191 hiN1191 hjN1191
          go_wp2_with fail
          go_region
          clear c1191a c1191b c1191c f1191a f1191b
          generalize ((w3.setCell ⟨X.blk, iN1191, none⟩ (encN y1191)).setCell ⟨X.blk, jN1191, none⟩ (encN x1191)).drew = w4 at S4 ⊢
          clear ea1191 ec1191
          go_wp2
          go_roundg (hi - (2 * root + 1))
          case measure => omega
          case rel => exact ⟨2 * root + 1, swp dk (first + root) (first + (2 * root + 1)), by go_num, by omega, Nat.le_refl _, by rw [size_swp]; exact hds, S4, (show Hid _ from by rw [← HE.out, sd_left_go (ltOf X.cf) dk (by omega) (fun h => absurd h h1) hG]; exact rfl)⟩
        | false =>
          obtain ⟨iN1192, hiN1192⟩ : ∃ q, q = first + root := ⟨_, rfl⟩
          obtain ⟨jN1192, hjN1192⟩ : ∃ q, q = first + (2 * root + 1) := ⟨_, rfl⟩
          have ea1192 : ((first : Int) + (root : Int)).toNat = iN1192 := by omega
          have pa1192 : (0 : Int) ≤ (first : Int) + (root : Int) := by omega
          have ba1192 : (first : Int) + (root : Int) < (d.size : Int) := by omega
          have ra1192 : IntKind.i64.wrap ((first : Int) + (root : Int)) = (first : Int) + (root : Int) := by rw [IntKind.wrap_i64]; omega
          have ec1192 : ((first : Int) + (2 * (root : Int) + 1)).toNat = jN1192 := by omega
          have pc1192 : (0 : Int) ≤ (first : Int) + (2 * (root : Int) + 1) := by omega
          have bc1192 : (first : Int) + (2 * (root : Int) + 1) < (d.size : Int) := by omega
          have rc1192 : IntKind.i64.wrap ((first : Int) + (2 * (root : Int) + 1)) = (first : Int) + (2 * (root : Int) + 1) := by rw [IntKind.wrap_i64]; omega
          obtain ⟨x1192, hx1192⟩ : ∃ x, x = dk[first + root]! := ⟨_, rfl⟩
          obtain ⟨y1192, hy1192⟩ : ∃ x, x = dk[first + (2 * root + 1)]! := ⟨_, rfl⟩
          have l1192a := S2.out.drew.c1 (first + root) (by omega)
          have l1192b := S2.out.drew.c1 (first + (2 * root + 1)) (by omega)
          rw [← hx1192, ← hiN1192] at l1192a
          rw [← hy1192, ← hjN1192] at l1192b
          have hc1192 := S2.out.drew.cmp (first + root) (first + (2 * root + 1)) (by omega) (by omega)
          rw [← hx1192, ← hy1192] at hc1192
          have hv1192 : ¬ X.cf x1192 y1192 < 0 := by rw [hx1192, hy1192]; exact of_decide_eq_false hG
          have hd1192 : decide (X.cf x1192 y1192 < 0) = false := decide_eq_false hv1192
          clear hx1192 hy1192 hiN1192 hjN1192
          go_wp2_with fail
          first | (refine wp_region_still_tail 19 (by kernel_rfl) (by kernel_rfl) ?_; simp only [List.take_succ_cons, List.take_zero, List.drop_succ_cons, List.drop_zero]; (repeat still_step); refine wpStill_nil ?_) | (refine wp_region_still_tail 13 (by kernel_rfl) (by kernel_rfl) ?_; simp only [List.take_succ_cons, List.take_zero, List.drop_succ_cons, List.drop_zero]; (repeat still_step); refine wpStill_nil ?_)
          change wpList _ _ _ _ _ w2.drew
          refine wpList_gen fun Qq hQq => ?_
          go_wp2_with (go_at_call 78; go_must (refine hc1192.mono ?_; rintro e1q w3 ⟨rfl, S2q, E2q⟩; have S3 : Aside (SX X dk w3) := S2q; clear l1192a l1192b hc1192 S2 ea1192 ec1192 S2q E2q))
          obtain rfl := hQq.out
          clear hQq
          go_wp2
          (try simp only [Exit.inBlock, Exit.then]); refine bodyPost_ret (results_none rfl _ _ _) rfl ?_
          refine ⟨rfl, ?_⟩
          rw [← HE.out, sd_left_stop (ltOf X.cf) dk (by omega) (fun h => absurd h h1) hG]
          exact S3.out
end Go.Proofs.Ytgchfbfgjanaiaa
