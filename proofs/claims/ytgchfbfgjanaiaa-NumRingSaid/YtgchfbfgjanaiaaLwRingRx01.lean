/- sandreckonerlaw01.NumRing: the walk -/
import Derived.Test.YtgchfbfgjanaiaaK02
import Derived.Test.YtgchfbfgjanaiaaJ35
import Derived.Deep.CutRange
import Derived.Test.YtgchfbfgjanaiaaK01
set_option linter.unusedSimpArgs false
set_option linter.unusedVariables false
namespace Go.Proofs.Ytgchfbfgjanaiaa
open Go.RowKit Sr

theorem mulR_comm (x y : Int) : mulR x y = mulR y x := by unfold mulR; rw [Nat.mul_comm, Int.mul_comm]
theorem wl_1 : wl 1 = 1 := by unfold wl; rw [form_1]; rfl
theorem mulR_one {x : Int} (h : Allowed x) : mulR x 1 = (x, 0) := by
  have := h.1
  unfold mulR
  rw [wl_1, Nat.mul_one, if_pos (by unfold wl; omega), Int.mul_one, gv_ok h]
theorem mulR_two (x y : Int) : ∃ u e, mulR x y = (u, e) ∧ ((e = 0 ∧ u = x * y) ∨ (e = 5 ∧ u = 0)) := by
  unfold mulR
  split
  · exact gv_two _
  · exact ⟨0, 5, rfl, .inr ⟨rfl, rfl⟩⟩
theorem sg_m2 (x : Int) : sg (x * -2) = -sg x := by rw [← sg_flip]; unfold sg; split <;> split <;> (try split) <;> (try split) <;> omega

set_option maxRecDepth 100000 in
set_option maxHeartbeats 4000000 in
theorem lawRing_any {w : World} {v : Value} {ops : List (Int × Int × Int × Int)} (h : OpsAt w v ops) (a0 a1 a2 : Int) : Calls Try.prog 8 #[v, .agg #[.int .i64 a0, .int .i64 a1, .int .i64 a2]] w fun e w' => e = .returned (.bool true) ∧ Below w.heap.size w w' := by
  obtain ⟨W1, hW1⟩ : ∃ W1, W1 = w.alloc (.cells #[.int .i64 a0, .int .i64 a1, .int .i64 a2] 75) := ⟨_, rfl⟩
  have b1 : Below w.heap.size w W1 := by rw [hW1]; exact below_new _ _
  have z1 : W1.heap[w.heap.size]? = some (.cells #[.int .i64 a0, .int .i64 a1, .int .i64 a2] 75 (0, 0)) := by rw [hW1]; exact blk_alloc _ _
  have hmd := lawMade_any (h.below b1)
  have HM := Sealed.mk hmd; clear hmd h
  have H1 := Sealed.mk (And.intro b1 z1); clear b1 z1
  go_enter Try.func8, Try.ntmps8
  go_upto_region 1 with fail
  rw [← hW1]
  clear hW1
  go_upto_region 2 with (go_at_call 40; go_must (refine HM.out.mono ?_; rintro e W2 ⟨av, cv, zs, ps, rfl, hns, hml, hb2⟩; have H2 := Sealed.mk (And.intro hns (And.intro hml hb2)); clear hns hml hb2))
  clear HM
  obtain ⟨x, y, z, px, py, pz, bb, oo, m, i, j, k, rfl, hm, hmc, hi, hj, hk, hr1, hr2, hr3, hC, S2, nx, ny, nz, hx, hy, hz⟩ := pick_three H1.out.1 H1.out.2 H2.out.1 H2.out.2.1 H2.out.2.2 a0 a1 a2
  rw [← hm]
  have HR := Sealed.mk (And.intro hr1 (And.intro hr2 hr3)); clear hr1 hr2 hr3
  have HC := Sealed.mk hC; clear hC
  have HZ := Sealed.mk (And.intro hx (And.intro hy hz)); clear hx hy hz
  replace H2 := Sealed.mk (And.intro S2 (And.intro nx (And.intro ny nz))); clear S2 nx ny nz hm H1
  go_cut [6, 7, 8] from 39 to 62 (fun v6 v7 v8 wx => ∃ k6 k7 k8, v6 = .pointer (some ⟨k6, 0, none⟩) ∧ v7 = .pointer (some ⟨k7, 0, none⟩) ∧ v8 = .pointer (some ⟨k8, 0, none⟩) ∧ St w wx [] [(k6, px, x), (k7, py, y), (k8, pz, z)])
  case first =>
    refine wp_region_noPanic ?_
    refine wp_region_held_drew (S := fun W => W.cell? ⟨w.heap.size, 0, none⟩ = some (.int .i64 a0) ∧ W.cell? ⟨w.heap.size, 1, none⟩ = some (.int .i64 a1) ∧ W.cell? ⟨w.heap.size, 2, none⟩ = some (.int .i64 a2) ∧ W.cell? ⟨bb, oo + i, none⟩ = some (.pointer px) ∧ W.cell? ⟨bb, oo + j, none⟩ = some (.pointer py) ∧ W.cell? ⟨bb, oo + k, none⟩ = some (.pointer pz)) (by kernel_rfl) ?_ (fun hHeld => ?_)
    · exact HC.out _ (below_drew _)
    refine wpAnyH_take (i := 0) (v := ?_) rfl (by kernel_rfl) (by kernel_rfl) (by kernel_rfl) (fun _ _ _ h => h) (Or.inl ⟨by rfl, ?_⟩) (by assumption) ?_
    rotate_left
    · intro w hSw; (try dsimp only at hSw); go_simp; first | done | with_reducible rfl
    simp only [Act.put, List.getElem_toArray, List.getElem_cons_zero, List.getElem_cons_succ, List.setIfInBounds_toArray, List.set_cons_zero, List.set_cons_succ]
    refine wpAnyH_take (i := 1) (v := ?_) rfl (by kernel_rfl) (by kernel_rfl) (by kernel_rfl) (fun _ _ _ h => h) (Or.inl ⟨by rfl, ?_⟩) (by assumption) ?_
    rotate_left
    · intro w hSw; (try dsimp only at hSw); go_simp; first | done | with_reducible rfl
    simp only [Act.put, List.getElem_toArray, List.getElem_cons_zero, List.getElem_cons_succ, List.setIfInBounds_toArray, List.set_cons_zero, List.set_cons_succ]
    refine wpAnyH_take (i := 2) (v := ?_) rfl (by kernel_rfl) (by kernel_rfl) (by kernel_rfl) (fun _ _ _ h => h) (Or.inl ⟨by rfl, ?_⟩) (by assumption) ?_
    rotate_left
    · intro w hSw; (try dsimp only at hSw); go_simp; first | done | with_reducible rfl
    simp only [Act.put, List.getElem_toArray, List.getElem_cons_zero, List.getElem_cons_succ, List.setIfInBounds_toArray, List.set_cons_zero, List.set_cons_succ]
    refine wpAnyH_take (i := 3) (v := ?_) rfl (by kernel_rfl) (by kernel_rfl) (by kernel_rfl) (fun _ _ _ h => h) (Or.inl ⟨by rfl, ?_⟩) (by assumption) ?_
    rotate_left
    · intro w hSw; (try dsimp only at hSw); go_simp; first | done | with_reducible rfl
    simp only [Act.put, List.getElem_toArray, List.getElem_cons_zero, List.getElem_cons_succ, List.setIfInBounds_toArray, List.set_cons_zero, List.set_cons_succ]
    refine wpAnyH_take (i := 4) (v := ?_) rfl (by kernel_rfl) (by kernel_rfl) (by kernel_rfl) (fun _ _ _ h => h) (Or.inl ⟨by rfl, ?_⟩) (by assumption) ?_
    rotate_left
    · intro w hSw; (try dsimp only at hSw); go_simp; first | done | with_reducible rfl
    simp only [Act.put, List.getElem_toArray, List.getElem_cons_zero, List.getElem_cons_succ, List.setIfInBounds_toArray, List.set_cons_zero, List.set_cons_succ]
    refine wpAnyH_call (i := 5) (v := .int .i64 (i : Int)) rfl (by kernel_rfl) (by kernel_rfl) (by kernel_rfl) (fun _ _ _ h => h) ⟨by rfl, ?_⟩ (by assumption) ?_
    · intro w hSw; refine ⟨_, _, by go_simp; exact ⟨rfl, rfl⟩, ?_⟩; exact HR.out.1 _
    simp only [Act.put, List.getElem_toArray, List.getElem_cons_zero, List.getElem_cons_succ, List.setIfInBounds_toArray, List.set_cons_zero, List.set_cons_succ]
    refine wpAnyH_take (i := 6) (v := ?_) rfl (by kernel_rfl) (by kernel_rfl) (by kernel_rfl) (fun _ _ _ h => h) (Or.inl ⟨by rfl, ?_⟩) (by assumption) ?_
    rotate_left
    · intro w hSw; (try dsimp only at hSw); go_simp; first | done | with_reducible rfl
    simp only [Act.put, List.getElem_toArray, List.getElem_cons_zero, List.getElem_cons_succ, List.setIfInBounds_toArray, List.set_cons_zero, List.set_cons_succ]
    refine wpAnyH_take (i := 7) (v := ?_) rfl (by kernel_rfl) (by kernel_rfl) (by kernel_rfl) (fun _ _ _ h => h) (Or.inl ⟨by rfl, ?_⟩) (by assumption) ?_
    rotate_left
    · intro w hSw; (try dsimp only at hSw); go_simp; first | done | with_reducible rfl
    simp only [Act.put, List.getElem_toArray, List.getElem_cons_zero, List.getElem_cons_succ, List.setIfInBounds_toArray, List.set_cons_zero, List.set_cons_succ]
    refine wpAnyH_take (i := 8) (v := ?_) rfl (by kernel_rfl) (by kernel_rfl) (by kernel_rfl) (fun _ _ _ h => h) (Or.inl ⟨by rfl, ?_⟩) (by assumption) ?_
    rotate_left
    · intro w hSw; (try dsimp only at hSw); go_simp; first | done | with_reducible rfl
    simp only [Act.put, List.getElem_toArray, List.getElem_cons_zero, List.getElem_cons_succ, List.setIfInBounds_toArray, List.set_cons_zero, List.set_cons_succ]
    refine wpAnyH_take (i := 9) (v := ?_) rfl (by kernel_rfl) (by kernel_rfl) (by kernel_rfl) (fun _ _ _ h => h) (Or.inl ⟨by rfl, ?_⟩) (by assumption) ?_
    rotate_left
    · intro w hSw; (try dsimp only at hSw); go_simp; first | done | with_reducible rfl
    simp only [Act.put, List.getElem_toArray, List.getElem_cons_zero, List.getElem_cons_succ, List.setIfInBounds_toArray, List.set_cons_zero, List.set_cons_succ]
    refine wpAnyH_take (i := 10) (v := ?_) rfl (by kernel_rfl) (by kernel_rfl) (by kernel_rfl) (fun _ _ _ h => h) (Or.inl ⟨by rfl, ?_⟩) (by assumption) ?_
    rotate_left
    · intro w hSw; (try dsimp only at hSw); go_simp; first | done | with_reducible rfl
    simp only [Act.put, List.getElem_toArray, List.getElem_cons_zero, List.getElem_cons_succ, List.setIfInBounds_toArray, List.set_cons_zero, List.set_cons_succ]
    refine wpAnyH_take (i := 11) (v := ?_) rfl (by kernel_rfl) (by kernel_rfl) (by kernel_rfl) (fun _ _ _ h => h) (Or.inl ⟨by rfl, ?_⟩) (by assumption) ?_
    rotate_left
    · intro w hSw; (try dsimp only at hSw); go_simp; first | done | with_reducible rfl
    simp only [Act.put, List.getElem_toArray, List.getElem_cons_zero, List.getElem_cons_succ, List.setIfInBounds_toArray, List.set_cons_zero, List.set_cons_succ]
    refine wpAnyH_take (i := 12) (v := ?_) rfl (by kernel_rfl) (by kernel_rfl) (by kernel_rfl) (fun _ _ _ h => h) (Or.inl ⟨by rfl, ?_⟩) (by assumption) ?_
    rotate_left
    · intro w hSw; (try dsimp only at hSw); go_simp; first | done | with_reducible rfl
    simp only [Act.put, List.getElem_toArray, List.getElem_cons_zero, List.getElem_cons_succ, List.setIfInBounds_toArray, List.set_cons_zero, List.set_cons_succ]
    refine wpAnyH_call (i := 13) (v := .int .i64 (j : Int)) rfl (by kernel_rfl) (by kernel_rfl) (by kernel_rfl) (fun _ _ _ h => h) ⟨by rfl, ?_⟩ (by assumption) ?_
    · intro w hSw; refine ⟨_, _, by go_simp; exact ⟨rfl, rfl⟩, ?_⟩; exact HR.out.2.1 _
    simp only [Act.put, List.getElem_toArray, List.getElem_cons_zero, List.getElem_cons_succ, List.setIfInBounds_toArray, List.set_cons_zero, List.set_cons_succ]
    refine wpAnyH_take (i := 14) (v := ?_) rfl (by kernel_rfl) (by kernel_rfl) (by kernel_rfl) (fun _ _ _ h => h) (Or.inl ⟨by rfl, ?_⟩) (by assumption) ?_
    rotate_left
    · intro w hSw; (try dsimp only at hSw); go_simp; first | done | with_reducible rfl
    simp only [Act.put, List.getElem_toArray, List.getElem_cons_zero, List.getElem_cons_succ, List.setIfInBounds_toArray, List.set_cons_zero, List.set_cons_succ]
    refine wpAnyH_take (i := 15) (v := ?_) rfl (by kernel_rfl) (by kernel_rfl) (by kernel_rfl) (fun _ _ _ h => h) (Or.inl ⟨by rfl, ?_⟩) (by assumption) ?_
    rotate_left
    · intro w hSw; (try dsimp only at hSw); go_simp; first | done | with_reducible rfl
    simp only [Act.put, List.getElem_toArray, List.getElem_cons_zero, List.getElem_cons_succ, List.setIfInBounds_toArray, List.set_cons_zero, List.set_cons_succ]
    refine wpAnyH_take (i := 16) (v := ?_) rfl (by kernel_rfl) (by kernel_rfl) (by kernel_rfl) (fun _ _ _ h => h) (Or.inl ⟨by rfl, ?_⟩) (by assumption) ?_
    rotate_left
    · intro w hSw; (try dsimp only at hSw); go_simp; first | done | with_reducible rfl
    simp only [Act.put, List.getElem_toArray, List.getElem_cons_zero, List.getElem_cons_succ, List.setIfInBounds_toArray, List.set_cons_zero, List.set_cons_succ]
    refine wpAnyH_take (i := 17) (v := ?_) rfl (by kernel_rfl) (by kernel_rfl) (by kernel_rfl) (fun _ _ _ h => h) (Or.inl ⟨by rfl, ?_⟩) (by assumption) ?_
    rotate_left
    · intro w hSw; (try dsimp only at hSw); go_simp; first | done | with_reducible rfl
    simp only [Act.put, List.getElem_toArray, List.getElem_cons_zero, List.getElem_cons_succ, List.setIfInBounds_toArray, List.set_cons_zero, List.set_cons_succ]
    refine wpAnyH_take (i := 18) (v := ?_) rfl (by kernel_rfl) (by kernel_rfl) (by kernel_rfl) (fun _ _ _ h => h) (Or.inl ⟨by rfl, ?_⟩) (by assumption) ?_
    rotate_left
    · intro w hSw; (try dsimp only at hSw); go_simp; first | done | with_reducible rfl
    simp only [Act.put, List.getElem_toArray, List.getElem_cons_zero, List.getElem_cons_succ, List.setIfInBounds_toArray, List.set_cons_zero, List.set_cons_succ]
    refine wpAnyH_take (i := 19) (v := ?_) rfl (by kernel_rfl) (by kernel_rfl) (by kernel_rfl) (fun _ _ _ h => h) (Or.inl ⟨by rfl, ?_⟩) (by assumption) ?_
    rotate_left
    · intro w hSw; (try dsimp only at hSw); go_simp; first | done | with_reducible rfl
    simp only [Act.put, List.getElem_toArray, List.getElem_cons_zero, List.getElem_cons_succ, List.setIfInBounds_toArray, List.set_cons_zero, List.set_cons_succ]
    refine wpAnyH_take (i := 20) (v := ?_) rfl (by kernel_rfl) (by kernel_rfl) (by kernel_rfl) (fun _ _ _ h => h) (Or.inl ⟨by rfl, ?_⟩) (by assumption) ?_
    rotate_left
    · intro w hSw; (try dsimp only at hSw); go_simp; first | done | with_reducible rfl
    simp only [Act.put, List.getElem_toArray, List.getElem_cons_zero, List.getElem_cons_succ, List.setIfInBounds_toArray, List.set_cons_zero, List.set_cons_succ]
    refine wpAnyH_call (i := 21) (v := .int .i64 (k : Int)) rfl (by kernel_rfl) (by kernel_rfl) (by kernel_rfl) (fun _ _ _ h => h) ⟨by rfl, ?_⟩ (by assumption) ?_
    · intro w hSw; refine ⟨_, _, by go_simp; exact ⟨rfl, rfl⟩, ?_⟩; exact HR.out.2.2 _
    simp only [Act.put, List.getElem_toArray, List.getElem_cons_zero, List.getElem_cons_succ, List.setIfInBounds_toArray, List.set_cons_zero, List.set_cons_succ]
    refine wpAnyH_take (i := 22) (v := ?_) rfl (by kernel_rfl) (by kernel_rfl) (by kernel_rfl) (fun _ _ _ h => h) (Or.inl ⟨by rfl, ?_⟩) (by assumption) ?_
    rotate_left
    · intro w hSw; (try dsimp only at hSw); go_simp; first | done | with_reducible rfl
    simp only [Act.put, List.getElem_toArray, List.getElem_cons_zero, List.getElem_cons_succ, List.setIfInBounds_toArray, List.set_cons_zero, List.set_cons_succ]
    refine wpAnyH_take (i := 23) (v := ?_) rfl (by kernel_rfl) (by kernel_rfl) (by kernel_rfl) (fun _ _ _ h => h) (Or.inl ⟨by rfl, ?_⟩) (by assumption) ?_
    rotate_left
    · intro w hSw; (try dsimp only at hSw); go_simp; first | done | with_reducible rfl
    simp only [Act.put, List.getElem_toArray, List.getElem_cons_zero, List.getElem_cons_succ, List.setIfInBounds_toArray, List.set_cons_zero, List.set_cons_succ]
    refine wpAnyH_ready (rs := [24, 25, 26]) (by kernel_rfl) (by simp) ?_
    refine AllReadyH.cons rfl (fun K hK => ?_) (AllReadyH.cons rfl (fun K hK => ?_) (AllReadyH.cons rfl (fun K hK => ?_) (AllReadyH.nil)))
    · go_simp
      refine hK.out _ _ ?_ (fun hHeld => ?_)
      · exact HC.out _ (by repeat (first | exact Below.refl _ _ | refine below_dr ?_ | refine below_al ?_ | refine below_se ?_ (by omega)))
      clear hK K
      try simp only [Act.put, List.getElem_toArray, List.getElem_cons_zero, List.getElem_cons_succ, List.setIfInBounds_toArray, List.set_cons_zero, List.set_cons_succ]
      refine wpAnyH_ready (rs := [25, 26]) (by kernel_rfl) (by simp) ?_
      refine AllReadyH.cons rfl (fun K hK => ?_) (AllReadyH.cons rfl (fun K hK => ?_) (AllReadyH.nil))
      · go_simp
        refine hK.out _ _ ?_ (fun hHeld => ?_)
        · exact HC.out _ (by repeat (first | exact Below.refl _ _ | refine below_dr ?_ | refine below_al ?_ | refine below_se ?_ (by omega)))
        clear hK K
        try simp only [Act.put, List.getElem_toArray, List.getElem_cons_zero, List.getElem_cons_succ, List.setIfInBounds_toArray, List.set_cons_zero, List.set_cons_succ]
        refine wpAnyH_ready (rs := [26]) (by kernel_rfl) (by simp) ?_
        refine AllReadyH.cons rfl (fun K hK => ?_) (AllReadyH.nil)
        go_simp
        refine hK.out _ _ ?_ (fun hHeld => ?_)
        · exact HC.out _ (by repeat (first | exact Below.refl _ _ | refine below_dr ?_ | refine below_al ?_ | refine below_se ?_ (by omega)))
        clear hK K
        try simp only [Act.put, List.getElem_toArray, List.getElem_cons_zero, List.getElem_cons_succ, List.setIfInBounds_toArray, List.set_cons_zero, List.set_cons_succ]
        refine wpAnyH_ready (rs := [27]) (by kernel_rfl) (by simp) ?_
        refine AllReadyH.cons rfl (fun K hK => ?_) (AllReadyH.nil)
        go_simp
        refine hK.out _ _ ?_ (fun hHeld => ?_)
        · exact HC.out _ (by repeat (first | exact Below.refl _ _ | refine below_dr ?_ | refine below_al ?_ | refine below_se ?_ (by omega)))
        clear hK K
        try simp only [Act.put, List.getElem_toArray, List.getElem_cons_zero, List.getElem_cons_succ, List.setIfInBounds_toArray, List.set_cons_zero, List.set_cons_succ]
        refine wpAnyH_ready (rs := [28]) (by kernel_rfl) (by simp) ?_
        refine AllReadyH.cons rfl (fun K hK => ?_) (AllReadyH.nil)
        go_simp
        refine hK.out _ _ ?_ (fun hHeld => ?_)
        · exact HC.out _ (by repeat (first | exact Below.refl _ _ | refine below_dr ?_ | refine below_al ?_ | refine below_se ?_ (by omega)))
        clear hK K
        try simp only [Act.put, List.getElem_toArray, List.getElem_cons_zero, List.getElem_cons_succ, List.setIfInBounds_toArray, List.set_cons_zero, List.set_cons_succ]
        refine wpAnyH_ready (rs := [29]) (by kernel_rfl) (by simp) ?_
        refine AllReadyH.cons rfl (fun K hK => ?_) (AllReadyH.nil)
        go_simp
        refine hK.out _ _ ?_ (fun hHeld => ?_)
        · exact HC.out _ (by repeat (first | exact Below.refl _ _ | refine below_dr ?_ | refine below_al ?_ | refine below_se ?_ (by omega)))
        clear hK K
        try simp only [Act.put, List.getElem_toArray, List.getElem_cons_zero, List.getElem_cons_succ, List.setIfInBounds_toArray, List.set_cons_zero, List.set_cons_succ]
        refine wpAnyH_done (by kernel_rfl) ?_ _
        refine NoPanic.normal ?_
        go_wp2_with fail
        go_meet
        case rel =>
          first
            | exact ⟨_, _, _, rfl, rfl, rfl, (H2.out.1.new3 H2.out.2.1 H2.out.2.2.1 H2.out.2.2.2).dr.sub (by simp) (by simp <;> omega)⟩
            | exact ⟨_, _, _, rfl, rfl, rfl, (H2.out.1.new3 H2.out.2.1 H2.out.2.2.2 H2.out.2.2.1).dr.sub (by simp) (by simp <;> omega)⟩
            | exact ⟨_, _, _, rfl, rfl, rfl, (H2.out.1.new3 H2.out.2.2.1 H2.out.2.1 H2.out.2.2.2).dr.sub (by simp) (by simp <;> omega)⟩
            | exact ⟨_, _, _, rfl, rfl, rfl, (H2.out.1.new3 H2.out.2.2.1 H2.out.2.2.2 H2.out.2.1).dr.sub (by simp) (by simp <;> omega)⟩
            | exact ⟨_, _, _, rfl, rfl, rfl, (H2.out.1.new3 H2.out.2.2.2 H2.out.2.1 H2.out.2.2.1).dr.sub (by simp) (by simp <;> omega)⟩
            | exact ⟨_, _, _, rfl, rfl, rfl, (H2.out.1.new3 H2.out.2.2.2 H2.out.2.2.1 H2.out.2.1).dr.sub (by simp) (by simp <;> omega)⟩
      · go_simp
        refine hK.out _ _ ?_ (fun hHeld => ?_)
        · exact HC.out _ (by repeat (first | exact Below.refl _ _ | refine below_dr ?_ | refine below_al ?_ | refine below_se ?_ (by omega)))
        clear hK K
        try simp only [Act.put, List.getElem_toArray, List.getElem_cons_zero, List.getElem_cons_succ, List.setIfInBounds_toArray, List.set_cons_zero, List.set_cons_succ]
        refine wpAnyH_ready (rs := [25]) (by kernel_rfl) (by simp) ?_
        refine AllReadyH.cons rfl (fun K hK => ?_) (AllReadyH.nil)
        go_simp
        refine hK.out _ _ ?_ (fun hHeld => ?_)
        · exact HC.out _ (by repeat (first | exact Below.refl _ _ | refine below_dr ?_ | refine below_al ?_ | refine below_se ?_ (by omega)))
        clear hK K
        try simp only [Act.put, List.getElem_toArray, List.getElem_cons_zero, List.getElem_cons_succ, List.setIfInBounds_toArray, List.set_cons_zero, List.set_cons_succ]
        refine wpAnyH_ready (rs := [27]) (by kernel_rfl) (by simp) ?_
        refine AllReadyH.cons rfl (fun K hK => ?_) (AllReadyH.nil)
        go_simp
        refine hK.out _ _ ?_ (fun hHeld => ?_)
        · exact HC.out _ (by repeat (first | exact Below.refl _ _ | refine below_dr ?_ | refine below_al ?_ | refine below_se ?_ (by omega)))
        clear hK K
        try simp only [Act.put, List.getElem_toArray, List.getElem_cons_zero, List.getElem_cons_succ, List.setIfInBounds_toArray, List.set_cons_zero, List.set_cons_succ]
        refine wpAnyH_ready (rs := [28]) (by kernel_rfl) (by simp) ?_
        refine AllReadyH.cons rfl (fun K hK => ?_) (AllReadyH.nil)
        go_simp
        refine hK.out _ _ ?_ (fun hHeld => ?_)
        · exact HC.out _ (by repeat (first | exact Below.refl _ _ | refine below_dr ?_ | refine below_al ?_ | refine below_se ?_ (by omega)))
        clear hK K
        try simp only [Act.put, List.getElem_toArray, List.getElem_cons_zero, List.getElem_cons_succ, List.setIfInBounds_toArray, List.set_cons_zero, List.set_cons_succ]
        refine wpAnyH_ready (rs := [29]) (by kernel_rfl) (by simp) ?_
        refine AllReadyH.cons rfl (fun K hK => ?_) (AllReadyH.nil)
        go_simp
        refine hK.out _ _ ?_ (fun hHeld => ?_)
        · exact HC.out _ (by repeat (first | exact Below.refl _ _ | refine below_dr ?_ | refine below_al ?_ | refine below_se ?_ (by omega)))
        clear hK K
        try simp only [Act.put, List.getElem_toArray, List.getElem_cons_zero, List.getElem_cons_succ, List.setIfInBounds_toArray, List.set_cons_zero, List.set_cons_succ]
        refine wpAnyH_done (by kernel_rfl) ?_ _
        refine NoPanic.normal ?_
        go_wp2_with fail
        go_meet
        case rel =>
          first
            | exact ⟨_, _, _, rfl, rfl, rfl, (H2.out.1.new3 H2.out.2.1 H2.out.2.2.1 H2.out.2.2.2).dr.sub (by simp) (by simp <;> omega)⟩
            | exact ⟨_, _, _, rfl, rfl, rfl, (H2.out.1.new3 H2.out.2.1 H2.out.2.2.2 H2.out.2.2.1).dr.sub (by simp) (by simp <;> omega)⟩
            | exact ⟨_, _, _, rfl, rfl, rfl, (H2.out.1.new3 H2.out.2.2.1 H2.out.2.1 H2.out.2.2.2).dr.sub (by simp) (by simp <;> omega)⟩
            | exact ⟨_, _, _, rfl, rfl, rfl, (H2.out.1.new3 H2.out.2.2.1 H2.out.2.2.2 H2.out.2.1).dr.sub (by simp) (by simp <;> omega)⟩
            | exact ⟨_, _, _, rfl, rfl, rfl, (H2.out.1.new3 H2.out.2.2.2 H2.out.2.1 H2.out.2.2.1).dr.sub (by simp) (by simp <;> omega)⟩
            | exact ⟨_, _, _, rfl, rfl, rfl, (H2.out.1.new3 H2.out.2.2.2 H2.out.2.2.1 H2.out.2.1).dr.sub (by simp) (by simp <;> omega)⟩
    · go_simp
      refine hK.out _ _ ?_ (fun hHeld => ?_)
      · exact HC.out _ (by repeat (first | exact Below.refl _ _ | refine below_dr ?_ | refine below_al ?_ | refine below_se ?_ (by omega)))
      clear hK K
      try simp only [Act.put, List.getElem_toArray, List.getElem_cons_zero, List.getElem_cons_succ, List.setIfInBounds_toArray, List.set_cons_zero, List.set_cons_succ]
      refine wpAnyH_ready (rs := [24, 26]) (by kernel_rfl) (by simp) ?_
      refine AllReadyH.cons rfl (fun K hK => ?_) (AllReadyH.cons rfl (fun K hK => ?_) (AllReadyH.nil))
      · go_simp
        refine hK.out _ _ ?_ (fun hHeld => ?_)
        · exact HC.out _ (by repeat (first | exact Below.refl _ _ | refine below_dr ?_ | refine below_al ?_ | refine below_se ?_ (by omega)))
        clear hK K
        try simp only [Act.put, List.getElem_toArray, List.getElem_cons_zero, List.getElem_cons_succ, List.setIfInBounds_toArray, List.set_cons_zero, List.set_cons_succ]
        refine wpAnyH_ready (rs := [26]) (by kernel_rfl) (by simp) ?_
        refine AllReadyH.cons rfl (fun K hK => ?_) (AllReadyH.nil)
        go_simp
        refine hK.out _ _ ?_ (fun hHeld => ?_)
        · exact HC.out _ (by repeat (first | exact Below.refl _ _ | refine below_dr ?_ | refine below_al ?_ | refine below_se ?_ (by omega)))
        clear hK K
        try simp only [Act.put, List.getElem_toArray, List.getElem_cons_zero, List.getElem_cons_succ, List.setIfInBounds_toArray, List.set_cons_zero, List.set_cons_succ]
        refine wpAnyH_ready (rs := [27]) (by kernel_rfl) (by simp) ?_
        refine AllReadyH.cons rfl (fun K hK => ?_) (AllReadyH.nil)
        go_simp
        refine hK.out _ _ ?_ (fun hHeld => ?_)
        · exact HC.out _ (by repeat (first | exact Below.refl _ _ | refine below_dr ?_ | refine below_al ?_ | refine below_se ?_ (by omega)))
        clear hK K
        try simp only [Act.put, List.getElem_toArray, List.getElem_cons_zero, List.getElem_cons_succ, List.setIfInBounds_toArray, List.set_cons_zero, List.set_cons_succ]
        refine wpAnyH_ready (rs := [28]) (by kernel_rfl) (by simp) ?_
        refine AllReadyH.cons rfl (fun K hK => ?_) (AllReadyH.nil)
        go_simp
        refine hK.out _ _ ?_ (fun hHeld => ?_)
        · exact HC.out _ (by repeat (first | exact Below.refl _ _ | refine below_dr ?_ | refine below_al ?_ | refine below_se ?_ (by omega)))
        clear hK K
        try simp only [Act.put, List.getElem_toArray, List.getElem_cons_zero, List.getElem_cons_succ, List.setIfInBounds_toArray, List.set_cons_zero, List.set_cons_succ]
        refine wpAnyH_ready (rs := [29]) (by kernel_rfl) (by simp) ?_
        refine AllReadyH.cons rfl (fun K hK => ?_) (AllReadyH.nil)
        go_simp
        refine hK.out _ _ ?_ (fun hHeld => ?_)
        · exact HC.out _ (by repeat (first | exact Below.refl _ _ | refine below_dr ?_ | refine below_al ?_ | refine below_se ?_ (by omega)))
        clear hK K
        try simp only [Act.put, List.getElem_toArray, List.getElem_cons_zero, List.getElem_cons_succ, List.setIfInBounds_toArray, List.set_cons_zero, List.set_cons_succ]
        refine wpAnyH_done (by kernel_rfl) ?_ _
        refine NoPanic.normal ?_
        go_wp2_with fail
        go_meet
        case rel =>
          first
            | exact ⟨_, _, _, rfl, rfl, rfl, (H2.out.1.new3 H2.out.2.1 H2.out.2.2.1 H2.out.2.2.2).dr.sub (by simp) (by simp <;> omega)⟩
            | exact ⟨_, _, _, rfl, rfl, rfl, (H2.out.1.new3 H2.out.2.1 H2.out.2.2.2 H2.out.2.2.1).dr.sub (by simp) (by simp <;> omega)⟩
            | exact ⟨_, _, _, rfl, rfl, rfl, (H2.out.1.new3 H2.out.2.2.1 H2.out.2.1 H2.out.2.2.2).dr.sub (by simp) (by simp <;> omega)⟩
            | exact ⟨_, _, _, rfl, rfl, rfl, (H2.out.1.new3 H2.out.2.2.1 H2.out.2.2.2 H2.out.2.1).dr.sub (by simp) (by simp <;> omega)⟩
            | exact ⟨_, _, _, rfl, rfl, rfl, (H2.out.1.new3 H2.out.2.2.2 H2.out.2.1 H2.out.2.2.1).dr.sub (by simp) (by simp <;> omega)⟩
            | exact ⟨_, _, _, rfl, rfl, rfl, (H2.out.1.new3 H2.out.2.2.2 H2.out.2.2.1 H2.out.2.1).dr.sub (by simp) (by simp <;> omega)⟩
      · go_simp
        refine hK.out _ _ ?_ (fun hHeld => ?_)
        · exact HC.out _ (by repeat (first | exact Below.refl _ _ | refine below_dr ?_ | refine below_al ?_ | refine below_se ?_ (by omega)))
        clear hK K
        try simp only [Act.put, List.getElem_toArray, List.getElem_cons_zero, List.getElem_cons_succ, List.setIfInBounds_toArray, List.set_cons_zero, List.set_cons_succ]
        refine wpAnyH_ready (rs := [24]) (by kernel_rfl) (by simp) ?_
        refine AllReadyH.cons rfl (fun K hK => ?_) (AllReadyH.nil)
        go_simp
        refine hK.out _ _ ?_ (fun hHeld => ?_)
        · exact HC.out _ (by repeat (first | exact Below.refl _ _ | refine below_dr ?_ | refine below_al ?_ | refine below_se ?_ (by omega)))
        clear hK K
        try simp only [Act.put, List.getElem_toArray, List.getElem_cons_zero, List.getElem_cons_succ, List.setIfInBounds_toArray, List.set_cons_zero, List.set_cons_succ]
        refine wpAnyH_ready (rs := [27]) (by kernel_rfl) (by simp) ?_
        refine AllReadyH.cons rfl (fun K hK => ?_) (AllReadyH.nil)
        go_simp
        refine hK.out _ _ ?_ (fun hHeld => ?_)
        · exact HC.out _ (by repeat (first | exact Below.refl _ _ | refine below_dr ?_ | refine below_al ?_ | refine below_se ?_ (by omega)))
        clear hK K
        try simp only [Act.put, List.getElem_toArray, List.getElem_cons_zero, List.getElem_cons_succ, List.setIfInBounds_toArray, List.set_cons_zero, List.set_cons_succ]
        refine wpAnyH_ready (rs := [28]) (by kernel_rfl) (by simp) ?_
        refine AllReadyH.cons rfl (fun K hK => ?_) (AllReadyH.nil)
        go_simp
        refine hK.out _ _ ?_ (fun hHeld => ?_)
        · exact HC.out _ (by repeat (first | exact Below.refl _ _ | refine below_dr ?_ | refine below_al ?_ | refine below_se ?_ (by omega)))
        clear hK K
        try simp only [Act.put, List.getElem_toArray, List.getElem_cons_zero, List.getElem_cons_succ, List.setIfInBounds_toArray, List.set_cons_zero, List.set_cons_succ]
        refine wpAnyH_ready (rs := [29]) (by kernel_rfl) (by simp) ?_
        refine AllReadyH.cons rfl (fun K hK => ?_) (AllReadyH.nil)
        go_simp
        refine hK.out _ _ ?_ (fun hHeld => ?_)
        · exact HC.out _ (by repeat (first | exact Below.refl _ _ | refine below_dr ?_ | refine below_al ?_ | refine below_se ?_ (by omega)))
        clear hK K
        try simp only [Act.put, List.getElem_toArray, List.getElem_cons_zero, List.getElem_cons_succ, List.setIfInBounds_toArray, List.set_cons_zero, List.set_cons_succ]
        refine wpAnyH_done (by kernel_rfl) ?_ _
        refine NoPanic.normal ?_
        go_wp2_with fail
        go_meet
        case rel =>
          first
            | exact ⟨_, _, _, rfl, rfl, rfl, (H2.out.1.new3 H2.out.2.1 H2.out.2.2.1 H2.out.2.2.2).dr.sub (by simp) (by simp <;> omega)⟩
            | exact ⟨_, _, _, rfl, rfl, rfl, (H2.out.1.new3 H2.out.2.1 H2.out.2.2.2 H2.out.2.2.1).dr.sub (by simp) (by simp <;> omega)⟩
            | exact ⟨_, _, _, rfl, rfl, rfl, (H2.out.1.new3 H2.out.2.2.1 H2.out.2.1 H2.out.2.2.2).dr.sub (by simp) (by simp <;> omega)⟩
            | exact ⟨_, _, _, rfl, rfl, rfl, (H2.out.1.new3 H2.out.2.2.1 H2.out.2.2.2 H2.out.2.1).dr.sub (by simp) (by simp <;> omega)⟩
            | exact ⟨_, _, _, rfl, rfl, rfl, (H2.out.1.new3 H2.out.2.2.2 H2.out.2.1 H2.out.2.2.1).dr.sub (by simp) (by simp <;> omega)⟩
            | exact ⟨_, _, _, rfl, rfl, rfl, (H2.out.1.new3 H2.out.2.2.2 H2.out.2.2.1 H2.out.2.1).dr.sub (by simp) (by simp <;> omega)⟩
    · go_simp
      refine hK.out _ _ ?_ (fun hHeld => ?_)
      · exact HC.out _ (by repeat (first | exact Below.refl _ _ | refine below_dr ?_ | refine below_al ?_ | refine below_se ?_ (by omega)))
      clear hK K
      try simp only [Act.put, List.getElem_toArray, List.getElem_cons_zero, List.getElem_cons_succ, List.setIfInBounds_toArray, List.set_cons_zero, List.set_cons_succ]
      refine wpAnyH_ready (rs := [24, 25]) (by kernel_rfl) (by simp) ?_
      refine AllReadyH.cons rfl (fun K hK => ?_) (AllReadyH.cons rfl (fun K hK => ?_) (AllReadyH.nil))
      · go_simp
        refine hK.out _ _ ?_ (fun hHeld => ?_)
        · exact HC.out _ (by repeat (first | exact Below.refl _ _ | refine below_dr ?_ | refine below_al ?_ | refine below_se ?_ (by omega)))
        clear hK K
        try simp only [Act.put, List.getElem_toArray, List.getElem_cons_zero, List.getElem_cons_succ, List.setIfInBounds_toArray, List.set_cons_zero, List.set_cons_succ]
        refine wpAnyH_ready (rs := [25]) (by kernel_rfl) (by simp) ?_
        refine AllReadyH.cons rfl (fun K hK => ?_) (AllReadyH.nil)
        go_simp
        refine hK.out _ _ ?_ (fun hHeld => ?_)
        · exact HC.out _ (by repeat (first | exact Below.refl _ _ | refine below_dr ?_ | refine below_al ?_ | refine below_se ?_ (by omega)))
        clear hK K
        try simp only [Act.put, List.getElem_toArray, List.getElem_cons_zero, List.getElem_cons_succ, List.setIfInBounds_toArray, List.set_cons_zero, List.set_cons_succ]
        refine wpAnyH_ready (rs := [27]) (by kernel_rfl) (by simp) ?_
        refine AllReadyH.cons rfl (fun K hK => ?_) (AllReadyH.nil)
        go_simp
        refine hK.out _ _ ?_ (fun hHeld => ?_)
        · exact HC.out _ (by repeat (first | exact Below.refl _ _ | refine below_dr ?_ | refine below_al ?_ | refine below_se ?_ (by omega)))
        clear hK K
        try simp only [Act.put, List.getElem_toArray, List.getElem_cons_zero, List.getElem_cons_succ, List.setIfInBounds_toArray, List.set_cons_zero, List.set_cons_succ]
        refine wpAnyH_ready (rs := [28]) (by kernel_rfl) (by simp) ?_
        refine AllReadyH.cons rfl (fun K hK => ?_) (AllReadyH.nil)
        go_simp
        refine hK.out _ _ ?_ (fun hHeld => ?_)
        · exact HC.out _ (by repeat (first | exact Below.refl _ _ | refine below_dr ?_ | refine below_al ?_ | refine below_se ?_ (by omega)))
        clear hK K
        try simp only [Act.put, List.getElem_toArray, List.getElem_cons_zero, List.getElem_cons_succ, List.setIfInBounds_toArray, List.set_cons_zero, List.set_cons_succ]
        refine wpAnyH_ready (rs := [29]) (by kernel_rfl) (by simp) ?_
        refine AllReadyH.cons rfl (fun K hK => ?_) (AllReadyH.nil)
        go_simp
        refine hK.out _ _ ?_ (fun hHeld => ?_)
        · exact HC.out _ (by repeat (first | exact Below.refl _ _ | refine below_dr ?_ | refine below_al ?_ | refine below_se ?_ (by omega)))
        clear hK K
        try simp only [Act.put, List.getElem_toArray, List.getElem_cons_zero, List.getElem_cons_succ, List.setIfInBounds_toArray, List.set_cons_zero, List.set_cons_succ]
        refine wpAnyH_done (by kernel_rfl) ?_ _
        refine NoPanic.normal ?_
        go_wp2_with fail
        go_meet
        case rel =>
          first
            | exact ⟨_, _, _, rfl, rfl, rfl, (H2.out.1.new3 H2.out.2.1 H2.out.2.2.1 H2.out.2.2.2).dr.sub (by simp) (by simp <;> omega)⟩
            | exact ⟨_, _, _, rfl, rfl, rfl, (H2.out.1.new3 H2.out.2.1 H2.out.2.2.2 H2.out.2.2.1).dr.sub (by simp) (by simp <;> omega)⟩
            | exact ⟨_, _, _, rfl, rfl, rfl, (H2.out.1.new3 H2.out.2.2.1 H2.out.2.1 H2.out.2.2.2).dr.sub (by simp) (by simp <;> omega)⟩
            | exact ⟨_, _, _, rfl, rfl, rfl, (H2.out.1.new3 H2.out.2.2.1 H2.out.2.2.2 H2.out.2.1).dr.sub (by simp) (by simp <;> omega)⟩
            | exact ⟨_, _, _, rfl, rfl, rfl, (H2.out.1.new3 H2.out.2.2.2 H2.out.2.1 H2.out.2.2.1).dr.sub (by simp) (by simp <;> omega)⟩
            | exact ⟨_, _, _, rfl, rfl, rfl, (H2.out.1.new3 H2.out.2.2.2 H2.out.2.2.1 H2.out.2.1).dr.sub (by simp) (by simp <;> omega)⟩
      · go_simp
        refine hK.out _ _ ?_ (fun hHeld => ?_)
        · exact HC.out _ (by repeat (first | exact Below.refl _ _ | refine below_dr ?_ | refine below_al ?_ | refine below_se ?_ (by omega)))
        clear hK K
        try simp only [Act.put, List.getElem_toArray, List.getElem_cons_zero, List.getElem_cons_succ, List.setIfInBounds_toArray, List.set_cons_zero, List.set_cons_succ]
        refine wpAnyH_ready (rs := [24]) (by kernel_rfl) (by simp) ?_
        refine AllReadyH.cons rfl (fun K hK => ?_) (AllReadyH.nil)
        go_simp
        refine hK.out _ _ ?_ (fun hHeld => ?_)
        · exact HC.out _ (by repeat (first | exact Below.refl _ _ | refine below_dr ?_ | refine below_al ?_ | refine below_se ?_ (by omega)))
        clear hK K
        try simp only [Act.put, List.getElem_toArray, List.getElem_cons_zero, List.getElem_cons_succ, List.setIfInBounds_toArray, List.set_cons_zero, List.set_cons_succ]
        refine wpAnyH_ready (rs := [27]) (by kernel_rfl) (by simp) ?_
        refine AllReadyH.cons rfl (fun K hK => ?_) (AllReadyH.nil)
        go_simp
        refine hK.out _ _ ?_ (fun hHeld => ?_)
        · exact HC.out _ (by repeat (first | exact Below.refl _ _ | refine below_dr ?_ | refine below_al ?_ | refine below_se ?_ (by omega)))
        clear hK K
        try simp only [Act.put, List.getElem_toArray, List.getElem_cons_zero, List.getElem_cons_succ, List.setIfInBounds_toArray, List.set_cons_zero, List.set_cons_succ]
        refine wpAnyH_ready (rs := [28]) (by kernel_rfl) (by simp) ?_
        refine AllReadyH.cons rfl (fun K hK => ?_) (AllReadyH.nil)
        go_simp
        refine hK.out _ _ ?_ (fun hHeld => ?_)
        · exact HC.out _ (by repeat (first | exact Below.refl _ _ | refine below_dr ?_ | refine below_al ?_ | refine below_se ?_ (by omega)))
        clear hK K
        try simp only [Act.put, List.getElem_toArray, List.getElem_cons_zero, List.getElem_cons_succ, List.setIfInBounds_toArray, List.set_cons_zero, List.set_cons_succ]
        refine wpAnyH_ready (rs := [29]) (by kernel_rfl) (by simp) ?_
        refine AllReadyH.cons rfl (fun K hK => ?_) (AllReadyH.nil)
        go_simp
        refine hK.out _ _ ?_ (fun hHeld => ?_)
        · exact HC.out _ (by repeat (first | exact Below.refl _ _ | refine below_dr ?_ | refine below_al ?_ | refine below_se ?_ (by omega)))
        clear hK K
        try simp only [Act.put, List.getElem_toArray, List.getElem_cons_zero, List.getElem_cons_succ, List.setIfInBounds_toArray, List.set_cons_zero, List.set_cons_succ]
        refine wpAnyH_done (by kernel_rfl) ?_ _
        refine NoPanic.normal ?_
        go_wp2_with fail
        go_meet
        case rel =>
          first
            | exact ⟨_, _, _, rfl, rfl, rfl, (H2.out.1.new3 H2.out.2.1 H2.out.2.2.1 H2.out.2.2.2).dr.sub (by simp) (by simp <;> omega)⟩
            | exact ⟨_, _, _, rfl, rfl, rfl, (H2.out.1.new3 H2.out.2.1 H2.out.2.2.2 H2.out.2.2.1).dr.sub (by simp) (by simp <;> omega)⟩
            | exact ⟨_, _, _, rfl, rfl, rfl, (H2.out.1.new3 H2.out.2.2.1 H2.out.2.1 H2.out.2.2.2).dr.sub (by simp) (by simp <;> omega)⟩
            | exact ⟨_, _, _, rfl, rfl, rfl, (H2.out.1.new3 H2.out.2.2.1 H2.out.2.2.2 H2.out.2.1).dr.sub (by simp) (by simp <;> omega)⟩
            | exact ⟨_, _, _, rfl, rfl, rfl, (H2.out.1.new3 H2.out.2.2.2 H2.out.2.1 H2.out.2.2.1).dr.sub (by simp) (by simp <;> omega)⟩
            | exact ⟨_, _, _, rfl, rfl, rfl, (H2.out.1.new3 H2.out.2.2.2 H2.out.2.2.1 H2.out.2.1).dr.sub (by simp) (by simp <;> omega)⟩
  case rest =>
    obtain ⟨k6, k7, k8, rfl, rfl, rfl, hS⟩ := hcut
    obtain ⟨W3, hW3⟩ : ∃ W3, W3 = wc := ⟨_, rfl⟩
    rw [← hW3] at hS ⊢
    clear hW3 H2 HC HR
    have S := Sealed.mk hS; clear hS
    obtain ⟨v1, e1, g1, q1⟩ := gv_two (x + y)
    obtain ⟨v3, e3, g3, q3⟩ := gv_two (y + z)
    obtain ⟨v4, e4, g4, q4⟩ := mulR_two x y
    obtain ⟨v6, e6, g6, q6⟩ := mulR_two x z
    have G1 := Sealed.mk g1
    have G2 : Sealed (gv (y + x) = (v1, e1)) := ⟨by rw [Int.add_comm]; exact g1⟩
    have G3 := Sealed.mk g3
    have G4 := Sealed.mk g4
    have G5 : Sealed (mulR y x = (v4, e4)) := ⟨by rw [mulR_comm]; exact g4⟩
    have G6 := Sealed.mk g6
    have QQ := Sealed.mk (And.intro q1 (And.intro q3 (And.intro q4 q6)))
    clear g1 g3 g4 g6 q1 q3 q4 q6
    have ld0 := S.out.cell 0 rfl
    have ld1 := S.out.cell 1 rfl
    go_upto_region 4 with (go_at_call 32; go_must ((with_reducible refine (Add_two G1.out (S.out.cnum 0 rfl) (S.out.cnum 1 rfl)).mono ?_); rintro e w11 ⟨p11, rfl, hb, hn⟩; replace S := Sealed.mk (S.out.res hb hn); clear hb hn))
    clear ld0 ld1
    have S0 := (S.out.new (S.out.num 0 rfl)).clr
    obtain ⟨W12, hW12⟩ : ∃ W12, W12 = w11.alloc (.cells #[.pointer p11] 30) := ⟨_, rfl⟩
    rw [← hW12] at S0 ⊢
    replace S := Sealed.mk S0; clear S0 hW12
    have ld0 := S.out.cell 2 rfl
    have ld1 := S.out.cell 1 rfl
    go_upto_region 5 with (go_at_call 32; go_must ((with_reducible refine (Add_two G2.out (S.out.cnum 2 rfl) (S.out.cnum 1 rfl)).mono ?_); rintro e w13 ⟨p13, rfl, hb, hn⟩; replace S := Sealed.mk (S.out.res hb hn); clear hb hn))
    clear ld0 ld1
    have S0 := (S.out.new (S.out.num 0 rfl)).clr
    obtain ⟨W14, hW14⟩ : ∃ W14, W14 = w13.alloc (.cells #[.pointer p13] 30) := ⟨_, rfl⟩
    rw [← hW14] at S0 ⊢
    replace S := Sealed.mk S0; clear S0 hW14
    have ld0 := S.out.cell 3 rfl
    have ld1 := S.out.cell 4 rfl
    go_upto_region 6 with (go_at_call 32; go_must ((with_reducible refine (Add_two G3.out (S.out.cnum 3 rfl) (S.out.cnum 4 rfl)).mono ?_); rintro e w15 ⟨p15, rfl, hb, hn⟩; replace S := Sealed.mk (S.out.res hb hn); clear hb hn))
    clear ld0 ld1
    have S0 := (S.out.new (S.out.num 0 rfl)).clr
    obtain ⟨W16, hW16⟩ : ∃ W16, W16 = w15.alloc (.cells #[.pointer p15] 30) := ⟨_, rfl⟩
    rw [← hW16] at S0 ⊢
    replace S := Sealed.mk S0; clear S0 hW16
    have ld0 := S.out.cell 3 rfl
    have ld1 := S.out.cell 4 rfl
    go_upto_region 7 with (go_at_call 34; go_must ((with_reducible refine (Mul_two G4.out (S.out.cnum 3 rfl) (S.out.cnum 4 rfl)).mono ?_); rintro e w17 ⟨p17, rfl, hb, hn⟩; replace S := Sealed.mk (S.out.res hb hn); clear hb hn))
    clear ld0 ld1
    have S0 := (S.out.new (S.out.num 0 rfl)).clr
    obtain ⟨W18, hW18⟩ : ∃ W18, W18 = w17.alloc (.cells #[.pointer p17] 30) := ⟨_, rfl⟩
    rw [← hW18] at S0 ⊢
    replace S := Sealed.mk S0; clear S0 hW18
    have ld0 := S.out.cell 5 rfl
    have ld1 := S.out.cell 4 rfl
    go_upto_region 8 with (go_at_call 34; go_must ((with_reducible refine (Mul_two G5.out (S.out.cnum 5 rfl) (S.out.cnum 4 rfl)).mono ?_); rintro e w19 ⟨p19, rfl, hb, hn⟩; replace S := Sealed.mk (S.out.res hb hn); clear hb hn))
    clear ld0 ld1
    have S0 := (S.out.new (S.out.num 0 rfl)).clr
    obtain ⟨W20, hW20⟩ : ∃ W20, W20 = w19.alloc (.cells #[.pointer p19] 30) := ⟨_, rfl⟩
    rw [← hW20] at S0 ⊢
    replace S := Sealed.mk S0; clear S0 hW20
    have ld0 := S.out.cell 5 rfl
    have ld1 := S.out.cell 7 rfl
    go_upto_region 9 with (go_at_call 34; go_must ((with_reducible refine (Mul_two G6.out (S.out.cnum 5 rfl) (S.out.cnum 7 rfl)).mono ?_); rintro e w21 ⟨p21, rfl, hb, hn⟩; replace S := Sealed.mk (S.out.res hb hn); clear hb hn))
    clear ld0 ld1
    have S0 := (S.out.new (S.out.num 0 rfl)).clr
    obtain ⟨W22, hW22⟩ : ∃ W22, W22 = w21.alloc (.cells #[.pointer p21] 30) := ⟨_, rfl⟩
    rw [← hW22] at S0 ⊢
    replace S := Sealed.mk S0; clear S0 hW22
    go_cut [118] from 99 to 118 (fun v wx => v = .bool false ∧ Below W22.heap.size W22 wx)
    case first =>
      have HB := Sealed.mk (Below.refl W22.heap.size W22)
      have ld0 := S.out.cell 5 rfl
      have ld1 := S.out.cell 4 rfl
      have ld2 := S.out.cell 2 rfl
      have ld3 := S.out.cell 1 rfl
      go_wp2_with (first
        | (go_at_call 20; go_must (first
            | ((with_reducible refine (lawSame_any (S.out.cnum 5 rfl) (S.out.cnum 4 rfl)).mono ?_); rintro e w23 ⟨rfl, hb⟩; replace S := Sealed.mk (S.out.adv hb); replace HB := Sealed.mk (below_chain HB.out hb); clear hb; have lx0 := S.out.cell 5 rfl; have lx1 := S.out.cell 4 rfl; have lx2 := S.out.cell 2 rfl; have lx3 := S.out.cell 1 rfl)
            | ((with_reducible refine (lawSame_any (S.out.cnum 2 rfl) (S.out.cnum 1 rfl)).mono ?_); rintro e w24 ⟨rfl, hb⟩; replace S := Sealed.mk (S.out.adv hb); replace HB := Sealed.mk (below_chain HB.out hb); clear hb; have lx0 := S.out.cell 5 rfl; have lx1 := S.out.cell 4 rfl; have lx2 := S.out.cell 2 rfl; have lx3 := S.out.cell 1 rfl))))
      all_goals
        go_meet
        case rel => exact ⟨by first | rfl | simp, HB.out⟩
    case rest =>
      obtain ⟨rfl, hbc⟩ := hcut
      obtain ⟨W25, hW25⟩ : ∃ W25, W25 = wc := ⟨_, rfl⟩
      rw [← hW25] at hbc ⊢
      clear hW25
      replace S := Sealed.mk (S.out.adv hbc)
      clear hbc
      go_upto_region 11 with fail
      obtain ⟨b1, hb1⟩ : ∃ b : Bool, b = decide (e1 = 0 ∧ e3 = 0) := ⟨_, rfl⟩
      have B1 := Sealed.mk hb1; clear hb1
      go_cut [124] from 119 to 124 (fun v wx => v = .bool b1 ∧ W25 = wx)
      case first =>
        obtain ⟨q1, q3, -, -⟩ := QQ.out
        have hb1 := B1.out
        clear B1 QQ
        rcases q1 with ⟨rfl, -⟩ | ⟨rfl, -⟩ <;> rcases q3 with ⟨rfl, -⟩ | ⟨rfl, -⟩
        all_goals
          have hb1' := Sealed.mk hb1; clear hb1
          go_wp2_with fail
          go_meet
          case rel => exact ⟨by rw [hb1'.out]; rfl, rfl⟩
      case rest =>
        obtain ⟨rfl, rfl⟩ := hcut
        go_upto_if 124 with fail
        have S9 := S
        go_cut [124] from 125 to 161 (fun _ wx => St w wx [] [(w21.heap.size, p21, v6), (w19.heap.size, p19, v4), (w17.heap.size, p17, v4), (w15.heap.size, p15, v3), (w13.heap.size, p13, v1), (w11.heap.size, p11, v1), (k6, px, x), (k7, py, y), (k8, pz, z)])
        case first =>
          cases b1 with
          | false =>
            go_wp2_with fail
            go_meet
            case rel => exact S.out
          | true =>
            obtain ⟨h1, h3⟩ : e1 = 0 ∧ e3 = 0 := of_decide_eq_true B1.out.symm
            obtain ⟨v7, e7, g7, -⟩ := gv_two (x + y + z)
            have hv1 : v1 = x + y := by rcases QQ.out.1 with ⟨-, h⟩ | ⟨h, -⟩; exact h; omega
            have hv3 : v3 = y + z := by rcases QQ.out.2.1 with ⟨-, h⟩ | ⟨h, -⟩; exact h; omega
            have K1 : Sealed (gv (v1 + z) = (v7, e7)) := ⟨by rw [hv1]; exact g7⟩
            have K2 : Sealed (gv (x + v3) = (v7, e7)) := ⟨by rw [hv3, ← Int.add_assoc]; exact g7⟩
            have K3 : Sealed (gv (v1 - y) = (x, 0)) := ⟨by rw [hv1, show x + y - y = x by omega]; exact gv_ok HZ.out.1.1⟩
            clear h1 h3 g7 hv1 hv3
            go_upto_region 12 with fail
            have ld0 := S.out.cell 5 rfl
            have ld1 := S.out.cell 8 rfl
            go_upto_region 13 with (go_at_call 32; go_must ((with_reducible refine (Add_two K1.out (S.out.cnum 5 rfl) (S.out.cnum 8 rfl)).mono ?_); rintro e w26 ⟨p26, rfl, hb, hn⟩; replace S := Sealed.mk (S.out.res hb hn); clear hb hn))
            clear ld0 ld1
            have S0 := (S.out.new (S.out.num 0 rfl)).clr
            obtain ⟨W27, hW27⟩ : ∃ W27, W27 = w26.alloc (.cells #[.pointer p26] 30) := ⟨_, rfl⟩
            rw [← hW27] at S0 ⊢
            replace S := Sealed.mk S0; clear S0 hW27
            have ld0 := S.out.cell 7 rfl
            have ld1 := S.out.cell 4 rfl
            go_upto_region 14 with (go_at_call 32; go_must ((with_reducible refine (Add_two K2.out (S.out.cnum 7 rfl) (S.out.cnum 4 rfl)).mono ?_); rintro e w28 ⟨p28, rfl, hb, hn⟩; replace S := Sealed.mk (S.out.res hb hn); clear hb hn))
            clear ld0 ld1
            have S0 := (S.out.new (S.out.num 0 rfl)).clr
            obtain ⟨W29, hW29⟩ : ∃ W29, W29 = w28.alloc (.cells #[.pointer p28] 30) := ⟨_, rfl⟩
            rw [← hW29] at S0 ⊢
            replace S := Sealed.mk S0; clear S0 hW29
            have ld0 := S.out.cell 7 rfl
            have ld1 := S.out.cell 9 rfl
            go_upto_region 15 with (go_at_call 33; go_must ((with_reducible refine (Sub_two K3.out (S.out.cnum 7 rfl) (S.out.cnum 9 rfl)).mono ?_); rintro e w30 ⟨p30, rfl, hb, hn⟩; replace S := Sealed.mk (S.out.res hb hn); clear hb hn))
            clear ld0 ld1
            have S0 := (S.out.new (S.out.num 0 rfl)).clr
            obtain ⟨W31, hW31⟩ : ∃ W31, W31 = w30.alloc (.cells #[.pointer p30] 30) := ⟨_, rfl⟩
            rw [← hW31] at S0 ⊢
            replace S := Sealed.mk S0; clear S0 hW31
            have ld0 := S.out.cell 2 rfl
            have ld1 := S.out.cell 1 rfl
            have ld2 := S.out.cell 0 rfl
            have ld3 := S.out.cell 9 rfl
            go_wp2_with (go_at_call 20; go_must (first
              | ((with_reducible refine (lawSame_any (S.out.cnum 2 rfl) (S.out.cnum 1 rfl)).mono ?_); rintro e w90 ⟨rfl, hb⟩; replace S := Sealed.mk (S.out.adv hb); clear hb; have lx0 := S.out.cell 2 rfl; have lx1 := S.out.cell 1 rfl; have lx2 := S.out.cell 0 rfl; have lx3 := S.out.cell 9 rfl)
              | ((with_reducible refine (lawSame_any (S.out.cnum 0 rfl) (S.out.cnum 9 rfl)).mono ?_); rintro e w91 ⟨rfl, hb⟩; replace S := Sealed.mk (S.out.adv hb); clear hb; have lx0 := S.out.cell 2 rfl; have lx1 := S.out.cell 1 rfl; have lx2 := S.out.cell 0 rfl; have lx3 := S.out.cell 9 rfl)))
            go_meet
            case rel => exact S.out.clr.drop 3
        case rest =>
          obtain ⟨W32, hW32⟩ : ∃ W32, W32 = wc := ⟨_, rfl⟩
          rw [← hW32] at hcut ⊢
          clear hW32 S
          have S := Sealed.mk hcut; clear hcut
          go_upto_region 17 with fail
          obtain ⟨b2, hb2⟩ : ∃ b : Bool, b = decide (e3 = 0 ∧ e4 = 0 ∧ e6 = 0) := ⟨_, rfl⟩
          have B2 := Sealed.mk hb2; clear hb2
          go_cut [171] from 162 to 171 (fun v wx => v = .bool b2 ∧ W32 = wx)
          case first =>
            obtain ⟨-, q3, q4, q6⟩ := QQ.out
            have hb1 := B2.out
            clear B2 QQ
            rcases q3 with ⟨rfl, -⟩ | ⟨rfl, -⟩ <;> rcases q4 with ⟨rfl, -⟩ | ⟨rfl, -⟩ <;> rcases q6 with ⟨rfl, -⟩ | ⟨rfl, -⟩
            all_goals
              have hb1' := Sealed.mk hb1; clear hb1
              go_wp2_with fail
              go_meet
              case rel => exact ⟨by rw [hb1'.out]; rfl, rfl⟩
          case rest =>
            obtain ⟨rfl, rfl⟩ := hcut
            go_upto_if 171 with fail
            have S9 := S
            go_cut [171] from 172 to 195 (fun _ wx => St w wx [] [(w21.heap.size, p21, v6), (w19.heap.size, p19, v4), (w17.heap.size, p17, v4), (w15.heap.size, p15, v3), (w13.heap.size, p13, v1), (w11.heap.size, p11, v1), (k6, px, x), (k7, py, y), (k8, pz, z)])
            case first =>
              cases b2 with
              | false =>
                go_wp2_with fail
                go_meet
                case rel => exact S.out
              | true =>
                obtain ⟨h3, h4, h6⟩ : e3 = 0 ∧ e4 = 0 ∧ e6 = 0 := of_decide_eq_true B2.out.symm
                have hv3 : v3 = y + z := by rcases QQ.out.2.1 with ⟨-, h⟩ | ⟨h, -⟩; exact h; omega
                have hv4 : v4 = x * y := by rcases QQ.out.2.2.1 with ⟨-, h⟩ | ⟨h, -⟩; exact h; omega
                have hv6 : v6 = x * z := by rcases QQ.out.2.2.2 with ⟨-, h⟩ | ⟨h, -⟩; exact h; omega
                obtain ⟨u, hu⟩ : ∃ u, u = x * y + x * z := ⟨_, rfl⟩
                obtain ⟨v8, e8, g8, q8⟩ := mulR_two x v3
                obtain ⟨v9, e9, g9, q9⟩ := gv_two (v4 + v6)
                have hu1 : x * v3 = u := by rw [hv3, hu, Int.mul_add]
                have hu2 : v4 + v6 = u := by rw [hv4, hv6, hu]
                rw [hu1] at q8
                rw [hu2] at q9
                have K4 := Sealed.mk g8
                have K5 := Sealed.mk g9
                have Q8 := Sealed.mk (And.intro q8 q9)
                clear h3 h4 h6 hv3 hv4 hv6 hu hu1 hu2 g8 g9 q8 q9
                go_upto_region 18 with fail
                have ld0 := S.out.cell 6 rfl
                have ld1 := S.out.cell 3 rfl
                go_upto_region 19 with (go_at_call 34; go_must ((with_reducible refine (Mul_two K4.out (S.out.cnum 6 rfl) (S.out.cnum 3 rfl)).mono ?_); rintro e w33 ⟨p33, rfl, hb, hn⟩; replace S := Sealed.mk (S.out.res hb hn); clear hb hn))
                clear ld0 ld1
                have S0 := (S.out.new (S.out.num 0 rfl)).clr
                obtain ⟨W34, hW34⟩ : ∃ W34, W34 = w33.alloc (.cells #[.pointer p33] 30) := ⟨_, rfl⟩
                rw [← hW34] at S0 ⊢
                replace S := Sealed.mk S0; clear S0 hW34
                have ld0 := S.out.cell 3 rfl
                have ld1 := S.out.cell 1 rfl
                go_upto_region 20 with (go_at_call 32; go_must ((with_reducible refine (Add_two K5.out (S.out.cnum 3 rfl) (S.out.cnum 1 rfl)).mono ?_); rintro e w35 ⟨p35, rfl, hb, hn⟩; replace S := Sealed.mk (S.out.res hb hn); clear hb hn))
                clear ld0 ld1
                have S0 := (S.out.new (S.out.num 0 rfl)).clr
                obtain ⟨W36, hW36⟩ : ∃ W36, W36 = w35.alloc (.cells #[.pointer p35] 30) := ⟨_, rfl⟩
                rw [← hW36] at S0 ⊢
                replace S := Sealed.mk S0; clear S0 hW36
                obtain ⟨q8, q9⟩ := Q8.out
                clear Q8 K4 K5
                rcases q8 with ⟨rfl, rfl⟩ | ⟨rfl, rfl⟩ <;> rcases q9 with ⟨rfl, rfl⟩ | ⟨rfl, rfl⟩
                all_goals
                  have ld0 := S.out.cell 1 rfl
                  have ld1 := S.out.cell 0 rfl
                  go_wp2_with (go_at_call 20; go_must (first
                    | ((with_reducible refine (lawSame_any (S.out.cnum 1 rfl) (S.out.cnum 0 rfl)).mono ?_); rintro e w90 ⟨rfl, hb⟩; replace S := Sealed.mk (S.out.adv hb); clear hb; have lx0 := S.out.cell 1 rfl; have lx1 := S.out.cell 0 rfl)))
                  go_meet
                  case rel => exact S.out.clr.drop 2
            case rest =>
              obtain ⟨W37, hW37⟩ : ∃ W37, W37 = wc := ⟨_, rfl⟩
              rw [← hW37] at hcut ⊢
              clear hW37 S
              have S := Sealed.mk hcut; clear hcut
              go_upto_region 22 with fail
              have K6 : Sealed (gv (x - x) = (0, 0)) := ⟨by rw [Int.sub_self]; exact gv_ok allowed_zero⟩
              have K7 : Sealed (mulR x 1 = (x, 0)) := ⟨mulR_one HZ.out.1.1⟩
              obtain ⟨v9, e9, g9, q9⟩ := mulR_two x (-2)
              have K8 := Sealed.mk g9
              have Q9 := Sealed.mk q9
              have hof1 := fun W => Of_one (n := 1) (by unfold Is64; decide) W
              have hofm := fun W => Of_one (n := -2) (by unfold Is64; decide) W
              have hof0 := fun W => Of_one (n := 0) (by unfold Is64; decide) W
              have OF := Sealed.mk (And.intro hof1 (And.intro hofm hof0))
              clear g9 q9 hof1 hofm hof0 G1 G2 G3 G4 G5 G6 QQ B1 B2
              have ld0 := S.out.cell 6 rfl
              go_upto_region 23 with (go_at_call 33; go_must ((with_reducible refine (Sub_two K6.out (S.out.cnum 6 rfl) (S.out.cnum 6 rfl)).mono ?_); rintro e w38 ⟨p38, rfl, hb, hn⟩; replace S := Sealed.mk (S.out.res hb hn); clear hb hn))
              clear ld0
              have S0 := (S.out.new (S.out.num 0 rfl)).clr
              obtain ⟨W39, hW39⟩ : ∃ W39, W39 = w38.alloc (.cells #[.pointer p38] 30) := ⟨_, rfl⟩
              rw [← hW39] at S0 ⊢
              replace S := Sealed.mk S0; clear S0 hW39
              go_cut [33, 34] from 202 to 207 (fun vn ve wx => ∃ kn pn, vn = .pointer (some ⟨kn, 0, none⟩) ∧ ve = .int .i64 0 ∧ St w wx [] [(kn, pn, x), (w38.heap.size, p38, 0), (w21.heap.size, p21, v6), (w19.heap.size, p19, v4), (w17.heap.size, p17, v4), (w15.heap.size, p15, v3), (w13.heap.size, p13, v1), (w11.heap.size, p11, v1), (k6, px, x), (k7, py, y), (k8, pz, z)])
              case first =>
                go_region_held3 (fun W => W.cell? ⟨k6, 0, none⟩ = some (.pointer px))
                  (first
                    | exact S.out.cell 7 rfl
                    | exact S.out.dr.cell 7 rfl
                    | exact S.out.cell 8 rfl
                    | exact (S.out.new (NumIs.zero _)).dr.cell 8 rfl
                    | exact (S.out.new (NumIs.zero _)).cell 8 rfl
                    | exact (S.out.put 0 rfl (S.out.num 0 rfl)).cell 8 rfl
                    | exact (S.out.new (S.out.num 0 rfl)).cell 8 rfl
                    | fail)
                  (first
                    | (go_at_call 21; go_must ((with_reducible refine (OF.out.1 _).mono ?_); rintro e w40 ⟨p40, rfl, hb, hn⟩; first | (replace S := Sealed.mk (S.out.dr.res hb hn)) | (replace S := Sealed.mk ((S.out.new (NumIs.zero _)).dr.res hb hn)); clear hb hn))
                    | (go_at_call 34; go_must (first
                        | ((with_reducible refine (Mul_two K7.out (S.out.cnum 7 rfl) (S.out.num 0 rfl)).mono ?_); rintro e w40' ⟨p40', rfl, hb, hn⟩; replace S := Sealed.mk (S.out.res hb hn); clear hb hn)
                        | ((with_reducible refine (Mul_two K7.out (S.out.cnum 8 rfl) (S.out.num 0 rfl)).mono ?_); rintro e w40' ⟨p40', rfl, hb, hn⟩; replace S := Sealed.mk (S.out.res hb hn); have zc := S.out.cell 0 rfl; have zf := S.out.frozen 0 rfl; clear hb hn)
                        | ((with_reducible refine (Mul_two K7.out ((S.out.new (NumIs.zero _)).cnum 8 rfl) ((S.out.new (NumIs.zero _)).num 0 rfl)).mono ?_); rintro e w40' ⟨p40', rfl, hb, hn⟩; replace S := Sealed.mk ((S.out.new (NumIs.zero _)).res hb hn); have zc := S.out.cell 0 rfl; have zf := S.out.frozen 0 rfl; clear hb hn))))
                all_goals
                  go_wp2_with fail
                  go_meet
                  case rel =>
                    first
                      | exact ⟨_, _, rfl, rfl, (S.out.new (S.out.num 0 rfl)).clr⟩
                      | exact ⟨_, _, rfl, rfl, (S.out.put 0 rfl (S.out.num 0 rfl)).clr⟩
              case rest =>
                obtain ⟨kn40, pn40, rfl, rfl, hS⟩ := hcut
                obtain ⟨W40, hW40⟩ : ∃ W40, W40 = wc := ⟨_, rfl⟩
                rw [← hW40] at hS ⊢
                clear hW40
                replace S := Sealed.mk hS
                clear hS
                go_upto_region 24 with fail
                go_cut [35, 36] from 208 to 213 (fun vn ve wx => ∃ kn pn, vn = .pointer (some ⟨kn, 0, none⟩) ∧ ve = .int .i64 e9 ∧ St w wx [] [(kn, pn, v9), (kn40, pn40, x), (w38.heap.size, p38, 0), (w21.heap.size, p21, v6), (w19.heap.size, p19, v4), (w17.heap.size, p17, v4), (w15.heap.size, p15, v3), (w13.heap.size, p13, v1), (w11.heap.size, p11, v1), (k6, px, x), (k7, py, y), (k8, pz, z)])
                case first =>
                  go_region_held3 (fun W => W.cell? ⟨k6, 0, none⟩ = some (.pointer px))
                    (first
                      | exact S.out.cell 8 rfl
                      | exact S.out.dr.cell 8 rfl
                      | exact S.out.cell 9 rfl
                      | exact (S.out.new (NumIs.zero _)).dr.cell 9 rfl
                      | exact (S.out.new (NumIs.zero _)).cell 9 rfl
                      | exact (S.out.put 0 rfl (S.out.num 0 rfl)).cell 9 rfl
                      | exact (S.out.new (S.out.num 0 rfl)).cell 9 rfl
                      | fail)
                    (first
                      | (go_at_call 21; go_must ((with_reducible refine (OF.out.2.1 _).mono ?_); rintro e w41 ⟨p41, rfl, hb, hn⟩; first | (replace S := Sealed.mk (S.out.dr.res hb hn)) | (replace S := Sealed.mk ((S.out.new (NumIs.zero _)).dr.res hb hn)); clear hb hn))
                      | (go_at_call 34; go_must (first
                          | ((with_reducible refine (Mul_two K8.out (S.out.cnum 8 rfl) (S.out.num 0 rfl)).mono ?_); rintro e w41' ⟨p41', rfl, hb, hn⟩; replace S := Sealed.mk (S.out.res hb hn); clear hb hn)
                          | ((with_reducible refine (Mul_two K8.out (S.out.cnum 9 rfl) (S.out.num 0 rfl)).mono ?_); rintro e w41' ⟨p41', rfl, hb, hn⟩; replace S := Sealed.mk (S.out.res hb hn); have zc := S.out.cell 0 rfl; have zf := S.out.frozen 0 rfl; clear hb hn)
                          | ((with_reducible refine (Mul_two K8.out ((S.out.new (NumIs.zero _)).cnum 9 rfl) ((S.out.new (NumIs.zero _)).num 0 rfl)).mono ?_); rintro e w41' ⟨p41', rfl, hb, hn⟩; replace S := Sealed.mk ((S.out.new (NumIs.zero _)).res hb hn); have zc := S.out.cell 0 rfl; have zf := S.out.frozen 0 rfl; clear hb hn))))
                  all_goals
                    go_wp2_with fail
                    go_meet
                    case rel =>
                      first
                        | exact ⟨_, _, rfl, rfl, (S.out.new (S.out.num 0 rfl)).clr⟩
                        | exact ⟨_, _, rfl, rfl, (S.out.put 0 rfl (S.out.num 0 rfl)).clr⟩
                case rest =>
                  obtain ⟨kn41, pn41, rfl, rfl, hS⟩ := hcut
                  obtain ⟨W41, hW41⟩ : ∃ W41, W41 = wc := ⟨_, rfl⟩
                  rw [← hW41] at hS ⊢
                  clear hW41
                  replace S := Sealed.mk hS
                  clear hS
                  go_upto_region 25 with fail
                  obtain ⟨s, hs⟩ : ∃ s, s = sg x := ⟨_, rfl⟩
                  have hs2 := sg_m2 x
                  rw [← hs] at hs2
                  have q3 : IntKind.i64.wrap (-s) = -s := by rw [IntKind.wrap_i64]; rcases sg_cases x with ⟨-, h⟩ | ⟨-, h⟩ | ⟨-, h⟩ <;> omega
                  have HS2 := Sealed.mk (And.intro hs hs2); clear hs hs2
                  have q9 := Q9.out
                  clear Q9 K6 K7 K8 HZ S9
                  replace S := Sealed.mk S.out.dr
                  rcases q9 with ⟨rfl, rfl⟩ | ⟨rfl, rfl⟩
                  · go_region_held3 (fun W => W.cell? ⟨w38.heap.size, 0, none⟩ = some (.pointer p38) ∧ W.cell? ⟨kn40, 0, none⟩ = some (.pointer pn40) ∧ W.cell? ⟨k6, 0, none⟩ = some (.pointer px) ∧ W.cell? ⟨kn41, 0, none⟩ = some (.pointer pn41))
                      (exact ⟨S.out.cell 2 rfl, S.out.cell 1 rfl, S.out.cell 9 rfl, S.out.cell 0 rfl⟩)
                      (first
                        | (go_at_call 42; go_must (first
                            | ((with_reducible refine (Sign_any (S.out.cnum 2 rfl)).mono ?_); rintro e w50 ⟨rfl, hb⟩; rw [show sg 0 = 0 from rfl]; replace S := Sealed.mk (S.out.adv hb); clear hb)
                            | ((with_reducible refine (Sign_any (S.out.cnum 0 rfl)).mono ?_); rintro e w51 ⟨rfl, hb⟩; rw [HS2.out.2]; replace S := Sealed.mk (S.out.adv hb); clear hb)
                            | ((with_reducible refine (Sign_any (S.out.cnum 9 rfl)).mono ?_); rintro e w52 ⟨rfl, hb⟩; rw [← HS2.out.1]; replace S := Sealed.mk (S.out.adv hb); clear hb)))
                        | (go_at_call 21; go_must ((with_reducible refine (OF.out.2.2 _).mono ?_); rintro e w53 ⟨p53, rfl, hb, hn⟩; replace S := Sealed.mk (S.out.res hb hn); clear hb hn))
                        | (go_at_call 20; go_must (first
                            | ((with_reducible refine (lawSame_any (S.out.cnum 2 rfl) (S.out.num 0 rfl)).mono ?_); rintro e w54 ⟨rfl, hb⟩; replace S := Sealed.mk (S.out.adv hb); clear hb)
                            | ((with_reducible refine (lawSame_any (S.out.cnum 1 rfl) (S.out.cnum 9 rfl)).mono ?_); rintro e w55 ⟨rfl, hb⟩; replace S := Sealed.mk (S.out.adv hb); clear hb)))
                        | (go_at_call 15; go_must ((with_reducible refine (awake1_any _).mono ?_); rintro e w56 ⟨rfl, hb⟩; replace S := Sealed.mk (S.out.adv hb); clear hb)))
                    all_goals
                      go_wp2_with fail
                      go_ret
                      exact ⟨rfl, S.out.below⟩
                  · refine wp_region_noPanic ?_
                    refine wp_region_held_drew (S := fun W => W.cell? ⟨w38.heap.size, 0, none⟩ = some (.pointer p38) ∧ W.cell? ⟨kn40, 0, none⟩ = some (.pointer pn40) ∧ W.cell? ⟨k6, 0, none⟩ = some (.pointer px) ∧ W.cell? ⟨kn41, 0, none⟩ = some (.pointer pn41)) (by kernel_rfl) ?_ (fun hHeld => ?_)
                    · exact ⟨S.out.cell 2 rfl, S.out.cell 1 rfl, S.out.cell 9 rfl, S.out.cell 0 rfl⟩
                    refine wpAnyH_take (i := 0) (v := ?_) rfl (by kernel_rfl) (by kernel_rfl) (by kernel_rfl) (fun _ _ _ h => h) (Or.inl ⟨by rfl, ?_⟩) (by assumption) ?_
                    rotate_left
                    · intro w hSw; (try dsimp only at hSw); go_simp; first | done | with_reducible rfl
                    simp only [Act.put, List.getElem_toArray, List.getElem_cons_zero, List.getElem_cons_succ, List.setIfInBounds_toArray, List.set_cons_zero, List.set_cons_succ]
                    refine wpAnyH_take (i := 1) (v := ?_) rfl (by kernel_rfl) (by kernel_rfl) (by kernel_rfl) (fun _ _ _ h => h) (Or.inl ⟨by rfl, ?_⟩) (by assumption) ?_
                    rotate_left
                    · intro w hSw; (try dsimp only at hSw); go_simp; first | done | with_reducible rfl
                    simp only [Act.put, List.getElem_toArray, List.getElem_cons_zero, List.getElem_cons_succ, List.setIfInBounds_toArray, List.set_cons_zero, List.set_cons_succ]
                    refine wpAnyH_take (i := 2) (v := ?_) rfl (by kernel_rfl) (by kernel_rfl) (by kernel_rfl) (fun _ _ _ h => h) (Or.inl ⟨by rfl, ?_⟩) (by assumption) ?_
                    rotate_left
                    · intro w hSw; (try dsimp only at hSw); go_simp; first | done | with_reducible rfl
                    simp only [Act.put, List.getElem_toArray, List.getElem_cons_zero, List.getElem_cons_succ, List.setIfInBounds_toArray, List.set_cons_zero, List.set_cons_succ]
                    refine wpAnyH_take (i := 3) (v := ?_) rfl (by kernel_rfl) (by kernel_rfl) (by kernel_rfl) (fun _ _ _ h => h) (Or.inl ⟨by rfl, ?_⟩) (by assumption) ?_
                    rotate_left
                    · intro w hSw; (try dsimp only at hSw); go_simp; first | done | with_reducible rfl
                    simp only [Act.put, List.getElem_toArray, List.getElem_cons_zero, List.getElem_cons_succ, List.setIfInBounds_toArray, List.set_cons_zero, List.set_cons_succ]
                    refine wpAnyH_ready (rs := [4]) (by kernel_rfl) (by simp) ?_
                    refine AllReadyH.cons rfl (fun K hK => ?_) AllReadyH.nil
                    go_simp
                    (with_reducible refine (Sign_any (S.out.cnum 2 rfl)).mono ?_); rintro e w50 ⟨rfl, hb⟩; rw [show sg 0 = 0 from rfl]; replace S := Sealed.mk (S.out.adv hb); clear hb; go_wp2_with fail
                    refine hK.out _ _ ?_ (fun hHeld => ?_)
                    · exact ⟨S.out.cell 2 rfl, S.out.cell 1 rfl, S.out.cell 9 rfl, S.out.cell 0 rfl⟩
                    clear hK K
                    try simp only [Act.put, List.getElem_toArray, List.getElem_cons_zero, List.getElem_cons_succ, List.setIfInBounds_toArray, List.set_cons_zero, List.set_cons_succ]
                    refine wpAnyH_take (i := 5) (v := ?_) rfl (by kernel_rfl) (by kernel_rfl) (by kernel_rfl) (fun _ _ _ h => h) (Or.inl ⟨by rfl, ?_⟩) (by assumption) ?_
                    rotate_left
                    · intro w hSw; (try dsimp only at hSw); go_simp; first | done | with_reducible rfl
                    simp only [Act.put, List.getElem_toArray, List.getElem_cons_zero, List.getElem_cons_succ, List.setIfInBounds_toArray, List.set_cons_zero, List.set_cons_succ]
                    refine wpAnyH_take (i := 6) (v := ?_) rfl (by kernel_rfl) (by kernel_rfl) (by kernel_rfl) (fun _ _ _ h => h) (Or.inl ⟨by rfl, ?_⟩) (by assumption) ?_
                    rotate_left
                    · intro w hSw; (try dsimp only at hSw); go_simp; first | done | with_reducible rfl
                    simp only [Act.put, List.getElem_toArray, List.getElem_cons_zero, List.getElem_cons_succ, List.setIfInBounds_toArray, List.set_cons_zero, List.set_cons_succ]
                    refine wpAnyH_take (i := 7) (v := ?_) rfl (by kernel_rfl) (by kernel_rfl) (by kernel_rfl) (fun _ _ _ h => h) (Or.inl ⟨by rfl, ?_⟩) (by assumption) ?_
                    rotate_left
                    · intro w hSw; (try dsimp only at hSw); go_simp; first | done | with_reducible rfl
                    simp only [Act.put, List.getElem_toArray, List.getElem_cons_zero, List.getElem_cons_succ, List.setIfInBounds_toArray, List.set_cons_zero, List.set_cons_succ]
                    refine wpAnyH_take (i := 8) (v := ?_) rfl (by kernel_rfl) (by kernel_rfl) (by kernel_rfl) (fun _ _ _ h => h) (Or.inl ⟨by rfl, ?_⟩) (by assumption) ?_
                    rotate_left
                    · intro w hSw; (try dsimp only at hSw); go_simp; first | done | with_reducible rfl
                    simp only [Act.put, List.getElem_toArray, List.getElem_cons_zero, List.getElem_cons_succ, List.setIfInBounds_toArray, List.set_cons_zero, List.set_cons_succ]
                    refine wpAnyH_ready (rs := [9]) (by kernel_rfl) (by simp) ?_
                    refine AllReadyH.cons rfl (fun K hK => ?_) AllReadyH.nil
                    go_simp
                    (with_reducible refine (OF.out.2.2 _).mono ?_); rintro e w53 ⟨p53, rfl, hb, hn⟩; replace S := Sealed.mk (S.out.res hb hn); clear hb hn; go_wp2_with fail
                    refine hK.out _ _ ?_ (fun hHeld => ?_)
                    · exact ⟨S.out.cell 2 rfl, S.out.cell 1 rfl, S.out.cell 9 rfl, S.out.cell 0 rfl⟩
                    clear hK K
                    try simp only [Act.put, List.getElem_toArray, List.getElem_cons_zero, List.getElem_cons_succ, List.setIfInBounds_toArray, List.set_cons_zero, List.set_cons_succ]
                    refine wpAnyH_ready (rs := [10]) (by kernel_rfl) (by simp) ?_
                    refine AllReadyH.cons rfl (fun K hK => ?_) AllReadyH.nil
                    go_simp
                    (with_reducible refine (lawSame_any (S.out.cnum 2 rfl) (S.out.num 0 rfl)).mono ?_); rintro e w54 ⟨rfl, hb⟩; replace S := Sealed.mk (S.out.adv hb); clear hb; go_wp2_with fail
                    refine hK.out _ _ ?_ (fun hHeld => ?_)
                    · exact ⟨S.out.cell 2 rfl, S.out.cell 1 rfl, S.out.cell 9 rfl, S.out.cell 0 rfl⟩
                    clear hK K
                    try simp only [Act.put, List.getElem_toArray, List.getElem_cons_zero, List.getElem_cons_succ, List.setIfInBounds_toArray, List.set_cons_zero, List.set_cons_succ]
                    refine wpAnyH_take (i := 11) (v := ?_) rfl (by kernel_rfl) (by kernel_rfl) (by kernel_rfl) (fun _ _ _ h => h) (Or.inl ⟨by rfl, ?_⟩) (by assumption) ?_
                    rotate_left
                    · intro w hSw; (try dsimp only at hSw); go_simp; first | done | with_reducible rfl
                    simp only [Act.put, List.getElem_toArray, List.getElem_cons_zero, List.getElem_cons_succ, List.setIfInBounds_toArray, List.set_cons_zero, List.set_cons_succ]
                    refine wpAnyH_take (i := 12) (v := ?_) rfl (by kernel_rfl) (by kernel_rfl) (by kernel_rfl) (fun _ _ _ h => h) (Or.inl ⟨by rfl, ?_⟩) (by assumption) ?_
                    rotate_left
                    · intro w hSw; (try dsimp only at hSw); go_simp; first | done | with_reducible rfl
                    simp only [Act.put, List.getElem_toArray, List.getElem_cons_zero, List.getElem_cons_succ, List.setIfInBounds_toArray, List.set_cons_zero, List.set_cons_succ]
                    refine wpAnyH_take (i := 13) (v := ?_) rfl (by kernel_rfl) (by kernel_rfl) (by kernel_rfl) (fun _ _ _ h => h) (Or.inl ⟨by rfl, ?_⟩) (by assumption) ?_
                    rotate_left
                    · intro w hSw; (try dsimp only at hSw); go_simp; first | done | with_reducible rfl
                    simp only [Act.put, List.getElem_toArray, List.getElem_cons_zero, List.getElem_cons_succ, List.setIfInBounds_toArray, List.set_cons_zero, List.set_cons_succ]
                    refine wpAnyH_take (i := 14) (v := ?_) rfl (by kernel_rfl) (by kernel_rfl) (by kernel_rfl) (fun _ _ _ h => h) (Or.inl ⟨by rfl, ?_⟩) (by assumption) ?_
                    rotate_left
                    · intro w hSw; (try dsimp only at hSw); go_simp; first | done | with_reducible rfl
                    simp only [Act.put, List.getElem_toArray, List.getElem_cons_zero, List.getElem_cons_succ, List.setIfInBounds_toArray, List.set_cons_zero, List.set_cons_succ]
                    refine wpAnyH_take (i := 15) (v := ?_) rfl (by kernel_rfl) (by kernel_rfl) (by kernel_rfl) (fun _ _ _ h => h) (Or.inl ⟨by rfl, ?_⟩) (by assumption) ?_
                    rotate_left
                    · intro w hSw; (try dsimp only at hSw); go_simp; first | done | with_reducible rfl
                    simp only [Act.put, List.getElem_toArray, List.getElem_cons_zero, List.getElem_cons_succ, List.setIfInBounds_toArray, List.set_cons_zero, List.set_cons_succ]
                    refine wpAnyH_take (i := 16) (v := ?_) rfl (by kernel_rfl) (by kernel_rfl) (by kernel_rfl) (fun _ _ _ h => h) (Or.inl ⟨by rfl, ?_⟩) (by assumption) ?_
                    rotate_left
                    · intro w hSw; (try dsimp only at hSw); go_simp; first | done | with_reducible rfl
                    simp only [Act.put, List.getElem_toArray, List.getElem_cons_zero, List.getElem_cons_succ, List.setIfInBounds_toArray, List.set_cons_zero, List.set_cons_succ]
                    refine wpAnyH_take (i := 17) (v := ?_) rfl (by kernel_rfl) (by kernel_rfl) (by kernel_rfl) (fun _ _ _ h => h) (Or.inl ⟨by rfl, ?_⟩) (by assumption) ?_
                    rotate_left
                    · intro w hSw; (try dsimp only at hSw); go_simp; first | done | with_reducible rfl
                    simp only [Act.put, List.getElem_toArray, List.getElem_cons_zero, List.getElem_cons_succ, List.setIfInBounds_toArray, List.set_cons_zero, List.set_cons_succ]
                    refine wpAnyH_take (i := 18) (v := ?_) rfl (by kernel_rfl) (by kernel_rfl) (by kernel_rfl) (fun _ _ _ h => h) (Or.inl ⟨by rfl, ?_⟩) (by assumption) ?_
                    rotate_left
                    · intro w hSw; (try dsimp only at hSw); go_simp; first | done | with_reducible rfl
                    simp only [Act.put, List.getElem_toArray, List.getElem_cons_zero, List.getElem_cons_succ, List.setIfInBounds_toArray, List.set_cons_zero, List.set_cons_succ]
                    refine wpAnyH_ready (rs := [19]) (by kernel_rfl) (by simp) ?_
                    refine AllReadyH.cons rfl (fun K hK => ?_) AllReadyH.nil
                    go_simp
                    (with_reducible refine (lawSame_any (S.out.cnum 1 rfl) (S.out.cnum 9 rfl)).mono ?_); rintro e w55 ⟨rfl, hb⟩; replace S := Sealed.mk (S.out.adv hb); clear hb; go_wp2_with fail
                    refine hK.out _ _ ?_ (fun hHeld => ?_)
                    · exact ⟨S.out.cell 2 rfl, S.out.cell 1 rfl, S.out.cell 9 rfl, S.out.cell 0 rfl⟩
                    clear hK K
                    try simp only [Act.put, List.getElem_toArray, List.getElem_cons_zero, List.getElem_cons_succ, List.setIfInBounds_toArray, List.set_cons_zero, List.set_cons_succ]
                    refine wpAnyH_take (i := 20) (v := ?_) rfl (by kernel_rfl) (by kernel_rfl) (by kernel_rfl) (fun _ _ _ h => h) (Or.inl ⟨by rfl, ?_⟩) (by assumption) ?_
                    rotate_left
                    · intro w hSw; (try dsimp only at hSw); go_simp; first | done | with_reducible rfl
                    simp only [Act.put, List.getElem_toArray, List.getElem_cons_zero, List.getElem_cons_succ, List.setIfInBounds_toArray, List.set_cons_zero, List.set_cons_succ]
                    refine wpAnyH_take (i := 21) (v := ?_) rfl (by kernel_rfl) (by kernel_rfl) (by kernel_rfl) (fun _ _ _ h => h) (Or.inl ⟨by rfl, ?_⟩) (by assumption) ?_
                    rotate_left
                    · intro w hSw; (try dsimp only at hSw); go_simp; first | done | with_reducible rfl
                    simp only [Act.put, List.getElem_toArray, List.getElem_cons_zero, List.getElem_cons_succ, List.setIfInBounds_toArray, List.set_cons_zero, List.set_cons_succ]
                    refine wpAnyH_take (i := 22) (v := ?_) rfl (by kernel_rfl) (by kernel_rfl) (by kernel_rfl) (fun _ _ _ h => h) (Or.inl ⟨by rfl, ?_⟩) (by assumption) ?_
                    rotate_left
                    · intro w hSw; (try dsimp only at hSw); go_simp; first | done | with_reducible rfl
                    simp only [Act.put, List.getElem_toArray, List.getElem_cons_zero, List.getElem_cons_succ, List.setIfInBounds_toArray, List.set_cons_zero, List.set_cons_succ]
                    refine wpAnyH_take (i := 23) (v := ?_) rfl (by kernel_rfl) (by kernel_rfl) (by kernel_rfl) (fun _ _ _ h => h) (Or.inl ⟨by rfl, ?_⟩) (by assumption) ?_
                    rotate_left
                    · intro w hSw; (try dsimp only at hSw); go_simp; first | done | with_reducible rfl
                    simp only [Act.put, List.getElem_toArray, List.getElem_cons_zero, List.getElem_cons_succ, List.setIfInBounds_toArray, List.set_cons_zero, List.set_cons_succ]
                    refine wpAnyH_take (i := 24) (v := ?_) rfl (by kernel_rfl) (by kernel_rfl) (by kernel_rfl) (fun _ _ _ h => h) (Or.inl ⟨by rfl, ?_⟩) (by assumption) ?_
                    rotate_left
                    · intro w hSw; (try dsimp only at hSw); go_simp; first | done | with_reducible rfl
                    simp only [Act.put, List.getElem_toArray, List.getElem_cons_zero, List.getElem_cons_succ, List.setIfInBounds_toArray, List.set_cons_zero, List.set_cons_succ]
                    refine wpAnyH_take (i := 25) (v := undef) rfl (by kernel_rfl) (by kernel_rfl) (by kernel_rfl) (fun _ _ _ h => h) (Or.inr ⟨by rfl, rfl⟩) (by assumption) ?_
                    simp only [Act.put, List.getElem_toArray, List.getElem_cons_zero, List.getElem_cons_succ, List.setIfInBounds_toArray, List.set_cons_zero, List.set_cons_succ]
                    refine wpAnyH_take (i := 26) (v := undef) rfl (by kernel_rfl) (by kernel_rfl) (by kernel_rfl) (fun _ _ _ h => h) (Or.inr ⟨by rfl, rfl⟩) (by assumption) ?_
                    simp only [Act.put, List.getElem_toArray, List.getElem_cons_zero, List.getElem_cons_succ, List.setIfInBounds_toArray, List.set_cons_zero, List.set_cons_succ]
                    refine wpAnyH_take (i := 27) (v := undef) rfl (by kernel_rfl) (by kernel_rfl) (by kernel_rfl) (fun _ _ _ h => h) (Or.inr ⟨by rfl, rfl⟩) (by assumption) ?_
                    simp only [Act.put, List.getElem_toArray, List.getElem_cons_zero, List.getElem_cons_succ, List.setIfInBounds_toArray, List.set_cons_zero, List.set_cons_succ]
                    refine wpAnyH_take (i := 28) (v := undef) rfl (by kernel_rfl) (by kernel_rfl) (by kernel_rfl) (fun _ _ _ h => h) (Or.inr ⟨by rfl, rfl⟩) (by assumption) ?_
                    simp only [Act.put, List.getElem_toArray, List.getElem_cons_zero, List.getElem_cons_succ, List.setIfInBounds_toArray, List.set_cons_zero, List.set_cons_succ]
                    refine wpAnyH_take (i := 29) (v := undef) rfl (by kernel_rfl) (by kernel_rfl) (by kernel_rfl) (fun _ _ _ h => h) (Or.inr ⟨by rfl, rfl⟩) (by assumption) ?_
                    simp only [Act.put, List.getElem_toArray, List.getElem_cons_zero, List.getElem_cons_succ, List.setIfInBounds_toArray, List.set_cons_zero, List.set_cons_succ]
                    refine wpAnyH_take (i := 30) (v := undef) rfl (by kernel_rfl) (by kernel_rfl) (by kernel_rfl) (fun _ _ _ h => h) (Or.inr ⟨by rfl, rfl⟩) (by assumption) ?_
                    simp only [Act.put, List.getElem_toArray, List.getElem_cons_zero, List.getElem_cons_succ, List.setIfInBounds_toArray, List.set_cons_zero, List.set_cons_succ]
                    refine wpAnyH_take (i := 31) (v := ?_) rfl (by kernel_rfl) (by kernel_rfl) (by kernel_rfl) (fun _ _ _ h => h) (Or.inl ⟨by rfl, ?_⟩) (by assumption) ?_
                    rotate_left
                    · intro w hSw; (try dsimp only at hSw); go_simp; first | done | with_reducible rfl
                    simp only [Act.put, List.getElem_toArray, List.getElem_cons_zero, List.getElem_cons_succ, List.setIfInBounds_toArray, List.set_cons_zero, List.set_cons_succ]
                    refine wpAnyH_take (i := 32) (v := ?_) rfl (by kernel_rfl) (by kernel_rfl) (by kernel_rfl) (fun _ _ _ h => h) (Or.inl ⟨by rfl, ?_⟩) (by assumption) ?_
                    rotate_left
                    · intro w hSw; (try dsimp only at hSw); go_simp; first | done | with_reducible rfl
                    simp only [Act.put, List.getElem_toArray, List.getElem_cons_zero, List.getElem_cons_succ, List.setIfInBounds_toArray, List.set_cons_zero, List.set_cons_succ]
                    refine wpAnyH_take (i := 33) (v := ?_) rfl (by kernel_rfl) (by kernel_rfl) (by kernel_rfl) (fun _ _ _ h => h) (Or.inl ⟨by rfl, ?_⟩) (by assumption) ?_
                    rotate_left
                    · intro w hSw; (try dsimp only at hSw); go_simp; first | done | with_reducible rfl
                    simp only [Act.put, List.getElem_toArray, List.getElem_cons_zero, List.getElem_cons_succ, List.setIfInBounds_toArray, List.set_cons_zero, List.set_cons_succ]
                    refine wpAnyH_ready (rs := [34]) (by kernel_rfl) (by simp) ?_
                    refine AllReadyH.cons rfl (fun K hK => ?_) AllReadyH.nil
                    go_simp
                    (with_reducible refine (awake1_any _).mono ?_); rintro e w56 ⟨rfl, hb⟩; replace S := Sealed.mk (S.out.adv hb); clear hb; go_wp2_with fail
                    refine hK.out _ _ ?_ (fun hHeld => ?_)
                    · exact ⟨S.out.cell 2 rfl, S.out.cell 1 rfl, S.out.cell 9 rfl, S.out.cell 0 rfl⟩
                    clear hK K
                    try simp only [Act.put, List.getElem_toArray, List.getElem_cons_zero, List.getElem_cons_succ, List.setIfInBounds_toArray, List.set_cons_zero, List.set_cons_succ]
                    refine wpAnyH_take (i := 35) (v := ?_) rfl (by kernel_rfl) (by kernel_rfl) (by kernel_rfl) (fun _ _ _ h => h) (Or.inl ⟨by rfl, ?_⟩) (by assumption) ?_
                    rotate_left
                    · intro w hSw; (try dsimp only at hSw); go_simp; first | done | with_reducible rfl
                    simp only [Act.put, List.getElem_toArray, List.getElem_cons_zero, List.getElem_cons_succ, List.setIfInBounds_toArray, List.set_cons_zero, List.set_cons_succ]
                    refine wpAnyH_take (i := 36) (v := ?_) rfl (by kernel_rfl) (by kernel_rfl) (by kernel_rfl) (fun _ _ _ h => h) (Or.inl ⟨by rfl, ?_⟩) (by assumption) ?_
                    rotate_left
                    · intro w hSw; (try dsimp only at hSw); go_simp; first | done | with_reducible rfl
                    simp only [Act.put, List.getElem_toArray, List.getElem_cons_zero, List.getElem_cons_succ, List.setIfInBounds_toArray, List.set_cons_zero, List.set_cons_succ]
                    refine wpAnyH_done (by kernel_rfl) ?_ _
                    refine NoPanic.normal ?_
                    go_wp2_with fail
                    go_ret
                    exact ⟨rfl, S.out.below⟩

end Go.Proofs.Ytgchfbfgjanaiaa
