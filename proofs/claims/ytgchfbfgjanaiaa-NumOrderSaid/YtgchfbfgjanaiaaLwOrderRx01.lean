/- sandreckonerlaw01.NumOrder: the walk -/
import Derived.Test.YtgchfbfgjanaiaaK02
import Derived.Test.YtgchfbfgjanaiaaJ35
import Derived.Deep.CutRange
set_option linter.unusedSimpArgs false
set_option linter.unusedVariables false
namespace Go.Proofs.Ytgchfbfgjanaiaa
open Go.RowKit Sr

set_option maxRecDepth 100000 in
set_option maxHeartbeats 2000000 in
theorem lawOrder_any {w : World} {v : Value} {ops : List (Int × Int × Int × Int)} (h : OpsAt w v ops) (a0 a1 a2 : Int) : Calls Try.prog 7 #[v, .agg #[.int .i64 a0, .int .i64 a1, .int .i64 a2]] w fun e w' => e = .returned (.bool true) ∧ Below w.heap.size w w' := by
  obtain ⟨W1, hW1⟩ : ∃ W1, W1 = w.alloc (.cells #[.int .i64 a0, .int .i64 a1, .int .i64 a2] 75) := ⟨_, rfl⟩
  have b1 : Below w.heap.size w W1 := by rw [hW1]; exact below_new _ _
  have z1 : W1.heap[w.heap.size]? = some (.cells #[.int .i64 a0, .int .i64 a1, .int .i64 a2] 75 (0, 0)) := by rw [hW1]; exact blk_alloc _ _
  have hmd := lawMade_any (h.below b1)
  have HM := Sealed.mk hmd; clear hmd h
  have H1 := Sealed.mk (And.intro b1 z1); clear b1 z1
  go_enter Try.func7, Try.ntmps7
  go_upto_region 1 with fail
  rw [← hW1]
  clear hW1
  go_upto_region 2 with (go_at_call 40; go_must (refine HM.out.mono ?_; rintro e W2 ⟨av, cv, zs, ps, rfl, hns, hml, hb2⟩; have H2 := Sealed.mk (And.intro hns (And.intro hml hb2)); clear hns hml hb2))
  clear HM
  obtain ⟨x, y, z, px, py, pz, bb, oo, m, i, j, k, rfl, hm, hmc, hi, hj, hk, hr1, hr2, hr3, hC, S2, nx, ny, nz, hx, hy, hz⟩ := pick_three H1.out.1 H1.out.2 H2.out.1 H2.out.2.1 H2.out.2.2 a0 a1 a2
  rw [← hm]
  have HR := Sealed.mk (And.intro hr1 (And.intro hr2 hr3)); clear hr1 hr2 hr3
  have HC := Sealed.mk hC; clear hC
  have HZ := Sealed.mk (And.intro hx (And.intro hy hz)); clear hx hy hz
  replace H2 := Sealed.mk (And.intro S2 (And.intro nx (And.intro ny nz))); clear S2 nx ny nz hm H1
  go_cut [6, 7, 8] from 18 to 41 (fun v6 v7 v8 wx => ∃ k6 k7 k8, v6 = .pointer (some ⟨k6, 0, none⟩) ∧ v7 = .pointer (some ⟨k7, 0, none⟩) ∧ v8 = .pointer (some ⟨k8, 0, none⟩) ∧ St w wx [] [(k6, px, x), (k7, py, y), (k8, pz, z)])
  case first =>
    refine wp_region_noPanic ?_
    refine wp_region_held_drew (S := fun W => W.cell? ⟨w.heap.size, 0, none⟩ = some (.int .i64 a0) ∧ W.cell? ⟨w.heap.size, 1, none⟩ = some (.int .i64 a1) ∧ W.cell? ⟨w.heap.size, 2, none⟩ = some (.int .i64 a2) ∧ W.cell? ⟨bb, oo + i, none⟩ = some (.pointer px) ∧ W.cell? ⟨bb, oo + j, none⟩ = some (.pointer py) ∧ W.cell? ⟨bb, oo + k, none⟩ = some (.pointer pz)) (by kernel_rfl) ?_ (fun hHeld => ?_)
    · exact HC.out _ (below_drew _)
    refine wpAnyH_take (i := 0) (v := ?_) rfl (by kernel_rfl) (by kernel_rfl) (by kernel_rfl) (fun _ _ _ h => h) (Or.inl ⟨by rfl, ?_⟩) (by assumption) ?_
    rotate_left
    · intro w hSw; (try dsimp only at hSw); go_simp; first | done | with_reducible rfl
    simp only [Act.put, List.getElem_toArray, List.getElem_cons_zero, List.getElem_cons_succ, List.setIfInBounds_toArray, List.set_cons_zero, List.set_cons_succ]
    refine wpAnyH_take (i := 1) (v := ?_) rfl (by kernel_rfl) (by kernel_rfl) (by kernel_rfl) (fun _ _ _ h => h) (Or.inl ⟨by rfl, ?_⟩) (by assumption) ?_
    rotate_left
    · intro w hSw; (try dsimp only at hSw); go_simp; first | done | with_reducible rfl
    simp only [Act.put, List.getElem_toArray, List.getElem_cons_zero, List.getElem_cons_succ, List.setIfInBounds_toArray, List.set_cons_zero, List.set_cons_succ]
    refine wpAnyH_take (i := 2) (v := ?_) rfl (by kernel_rfl) (by kernel_rfl) (by kernel_rfl) (fun _ _ _ h => h) (Or.inl ⟨by rfl, ?_⟩) (by assumption) ?_
    rotate_left
    · intro w hSw; (try dsimp only at hSw); go_simp; first | done | with_reducible rfl
    simp only [Act.put, List.getElem_toArray, List.getElem_cons_zero, List.getElem_cons_succ, List.setIfInBounds_toArray, List.set_cons_zero, List.set_cons_succ]
    refine wpAnyH_take (i := 3) (v := ?_) rfl (by kernel_rfl) (by kernel_rfl) (by kernel_rfl) (fun _ _ _ h => h) (Or.inl ⟨by rfl, ?_⟩) (by assumption) ?_
    rotate_left
    · intro w hSw; (try dsimp only at hSw); go_simp; first | done | with_reducible rfl
    simp only [Act.put, List.getElem_toArray, List.getElem_cons_zero, List.getElem_cons_succ, List.setIfInBounds_toArray, List.set_cons_zero, List.set_cons_succ]
    refine wpAnyH_take (i := 4) (v := ?_) rfl (by kernel_rfl) (by kernel_rfl) (by kernel_rfl) (fun _ _ _ h => h) (Or.inl ⟨by rfl, ?_⟩) (by assumption) ?_
    rotate_left
    · intro w hSw; (try dsimp only at hSw); go_simp; first | done | with_reducible rfl
    simp only [Act.put, List.getElem_toArray, List.getElem_cons_zero, List.getElem_cons_succ, List.setIfInBounds_toArray, List.set_cons_zero, List.set_cons_succ]
    refine wpAnyH_call (i := 5) (v := .int .i64 (i : Int)) rfl (by kernel_rfl) (by kernel_rfl) (by kernel_rfl) (fun _ _ _ h => h) ⟨by rfl, ?_⟩ (by assumption) ?_
    · intro w hSw; refine ⟨_, _, by go_simp; exact ⟨rfl, rfl⟩, ?_⟩; exact HR.out.1 _
    simp only [Act.put, List.getElem_toArray, List.getElem_cons_zero, List.getElem_cons_succ, List.setIfInBounds_toArray, List.set_cons_zero, List.set_cons_succ]
    refine wpAnyH_take (i := 6) (v := ?_) rfl (by kernel_rfl) (by kernel_rfl) (by kernel_rfl) (fun _ _ _ h => h) (Or.inl ⟨by rfl, ?_⟩) (by assumption) ?_
    rotate_left
    · intro w hSw; (try dsimp only at hSw); go_simp; first | done | with_reducible rfl
    simp only [Act.put, List.getElem_toArray, List.getElem_cons_zero, List.getElem_cons_succ, List.setIfInBounds_toArray, List.set_cons_zero, List.set_cons_succ]
    refine wpAnyH_take (i := 7) (v := ?_) rfl (by kernel_rfl) (by kernel_rfl) (by kernel_rfl) (fun _ _ _ h => h) (Or.inl ⟨by rfl, ?_⟩) (by assumption) ?_
    rotate_left
    · intro w hSw; (try dsimp only at hSw); go_simp; first | done | with_reducible rfl
    simp only [Act.put, List.getElem_toArray, List.getElem_cons_zero, List.getElem_cons_succ, List.setIfInBounds_toArray, List.set_cons_zero, List.set_cons_succ]
    refine wpAnyH_take (i := 8) (v := ?_) rfl (by kernel_rfl) (by kernel_rfl) (by kernel_rfl) (fun _ _ _ h => h) (Or.inl ⟨by rfl, ?_⟩) (by assumption) ?_
    rotate_left
    · intro w hSw; (try dsimp only at hSw); go_simp; first | done | with_reducible rfl
    simp only [Act.put, List.getElem_toArray, List.getElem_cons_zero, List.getElem_cons_succ, List.setIfInBounds_toArray, List.set_cons_zero, List.set_cons_succ]
    refine wpAnyH_take (i := 9) (v := ?_) rfl (by kernel_rfl) (by kernel_rfl) (by kernel_rfl) (fun _ _ _ h => h) (Or.inl ⟨by rfl, ?_⟩) (by assumption) ?_
    rotate_left
    · intro w hSw; (try dsimp only at hSw); go_simp; first | done | with_reducible rfl
    simp only [Act.put, List.getElem_toArray, List.getElem_cons_zero, List.getElem_cons_succ, List.setIfInBounds_toArray, List.set_cons_zero, List.set_cons_succ]
    refine wpAnyH_take (i := 10) (v := ?_) rfl (by kernel_rfl) (by kernel_rfl) (by kernel_rfl) (fun _ _ _ h => h) (Or.inl ⟨by rfl, ?_⟩) (by assumption) ?_
    rotate_left
    · intro w hSw; (try dsimp only at hSw); go_simp; first | done | with_reducible rfl
    simp only [Act.put, List.getElem_toArray, List.getElem_cons_zero, List.getElem_cons_succ, List.setIfInBounds_toArray, List.set_cons_zero, List.set_cons_succ]
    refine wpAnyH_take (i := 11) (v := ?_) rfl (by kernel_rfl) (by kernel_rfl) (by kernel_rfl) (fun _ _ _ h => h) (Or.inl ⟨by rfl, ?_⟩) (by assumption) ?_
    rotate_left
    · intro w hSw; (try dsimp only at hSw); go_simp; first | done | with_reducible rfl
    simp only [Act.put, List.getElem_toArray, List.getElem_cons_zero, List.getElem_cons_succ, List.setIfInBounds_toArray, List.set_cons_zero, List.set_cons_succ]
    refine wpAnyH_take (i := 12) (v := ?_) rfl (by kernel_rfl) (by kernel_rfl) (by kernel_rfl) (fun _ _ _ h => h) (Or.inl ⟨by rfl, ?_⟩) (by assumption) ?_
    rotate_left
    · intro w hSw; (try dsimp only at hSw); go_simp; first | done | with_reducible rfl
    simp only [Act.put, List.getElem_toArray, List.getElem_cons_zero, List.getElem_cons_succ, List.setIfInBounds_toArray, List.set_cons_zero, List.set_cons_succ]
    refine wpAnyH_call (i := 13) (v := .int .i64 (j : Int)) rfl (by kernel_rfl) (by kernel_rfl) (by kernel_rfl) (fun _ _ _ h => h) ⟨by rfl, ?_⟩ (by assumption) ?_
    · intro w hSw; refine ⟨_, _, by go_simp; exact ⟨rfl, rfl⟩, ?_⟩; exact HR.out.2.1 _
    simp only [Act.put, List.getElem_toArray, List.getElem_cons_zero, List.getElem_cons_succ, List.setIfInBounds_toArray, List.set_cons_zero, List.set_cons_succ]
    refine wpAnyH_take (i := 14) (v := ?_) rfl (by kernel_rfl) (by kernel_rfl) (by kernel_rfl) (fun _ _ _ h => h) (Or.inl ⟨by rfl, ?_⟩) (by assumption) ?_
    rotate_left
    · intro w hSw; (try dsimp only at hSw); go_simp; first | done | with_reducible rfl
    simp only [Act.put, List.getElem_toArray, List.getElem_cons_zero, List.getElem_cons_succ, List.setIfInBounds_toArray, List.set_cons_zero, List.set_cons_succ]
    refine wpAnyH_take (i := 15) (v := ?_) rfl (by kernel_rfl) (by kernel_rfl) (by kernel_rfl) (fun _ _ _ h => h) (Or.inl ⟨by rfl, ?_⟩) (by assumption) ?_
    rotate_left
    · intro w hSw; (try dsimp only at hSw); go_simp; first | done | with_reducible rfl
    simp only [Act.put, List.getElem_toArray, List.getElem_cons_zero, List.getElem_cons_succ, List.setIfInBounds_toArray, List.set_cons_zero, List.set_cons_succ]
    refine wpAnyH_take (i := 16) (v := ?_) rfl (by kernel_rfl) (by kernel_rfl) (by kernel_rfl) (fun _ _ _ h => h) (Or.inl ⟨by rfl, ?_⟩) (by assumption) ?_
    rotate_left
    · intro w hSw; (try dsimp only at hSw); go_simp; first | done | with_reducible rfl
    simp only [Act.put, List.getElem_toArray, List.getElem_cons_zero, List.getElem_cons_succ, List.setIfInBounds_toArray, List.set_cons_zero, List.set_cons_succ]
    refine wpAnyH_take (i := 17) (v := ?_) rfl (by kernel_rfl) (by kernel_rfl) (by kernel_rfl) (fun _ _ _ h => h) (Or.inl ⟨by rfl, ?_⟩) (by assumption) ?_
    rotate_left
    · intro w hSw; (try dsimp only at hSw); go_simp; first | done | with_reducible rfl
    simp only [Act.put, List.getElem_toArray, List.getElem_cons_zero, List.getElem_cons_succ, List.setIfInBounds_toArray, List.set_cons_zero, List.set_cons_succ]
    refine wpAnyH_take (i := 18) (v := ?_) rfl (by kernel_rfl) (by kernel_rfl) (by kernel_rfl) (fun _ _ _ h => h) (Or.inl ⟨by rfl, ?_⟩) (by assumption) ?_
    rotate_left
    · intro w hSw; (try dsimp only at hSw); go_simp; first | done | with_reducible rfl
    simp only [Act.put, List.getElem_toArray, List.getElem_cons_zero, List.getElem_cons_succ, List.setIfInBounds_toArray, List.set_cons_zero, List.set_cons_succ]
    refine wpAnyH_take (i := 19) (v := ?_) rfl (by kernel_rfl) (by kernel_rfl) (by kernel_rfl) (fun _ _ _ h => h) (Or.inl ⟨by rfl, ?_⟩) (by assumption) ?_
    rotate_left
    · intro w hSw; (try dsimp only at hSw); go_simp; first | done | with_reducible rfl
    simp only [Act.put, List.getElem_toArray, List.getElem_cons_zero, List.getElem_cons_succ, List.setIfInBounds_toArray, List.set_cons_zero, List.set_cons_succ]
    refine wpAnyH_take (i := 20) (v := ?_) rfl (by kernel_rfl) (by kernel_rfl) (by kernel_rfl) (fun _ _ _ h => h) (Or.inl ⟨by rfl, ?_⟩) (by assumption) ?_
    rotate_left
    · intro w hSw; (try dsimp only at hSw); go_simp; first | done | with_reducible rfl
    simp only [Act.put, List.getElem_toArray, List.getElem_cons_zero, List.getElem_cons_succ, List.setIfInBounds_toArray, List.set_cons_zero, List.set_cons_succ]
    refine wpAnyH_call (i := 21) (v := .int .i64 (k : Int)) rfl (by kernel_rfl) (by kernel_rfl) (by kernel_rfl) (fun _ _ _ h => h) ⟨by rfl, ?_⟩ (by assumption) ?_
    · intro w hSw; refine ⟨_, _, by go_simp; exact ⟨rfl, rfl⟩, ?_⟩; exact HR.out.2.2 _
    simp only [Act.put, List.getElem_toArray, List.getElem_cons_zero, List.getElem_cons_succ, List.setIfInBounds_toArray, List.set_cons_zero, List.set_cons_succ]
    refine wpAnyH_take (i := 22) (v := ?_) rfl (by kernel_rfl) (by kernel_rfl) (by kernel_rfl) (fun _ _ _ h => h) (Or.inl ⟨by rfl, ?_⟩) (by assumption) ?_
    rotate_left
    · intro w hSw; (try dsimp only at hSw); go_simp; first | done | with_reducible rfl
    simp only [Act.put, List.getElem_toArray, List.getElem_cons_zero, List.getElem_cons_succ, List.setIfInBounds_toArray, List.set_cons_zero, List.set_cons_succ]
    refine wpAnyH_take (i := 23) (v := ?_) rfl (by kernel_rfl) (by kernel_rfl) (by kernel_rfl) (fun _ _ _ h => h) (Or.inl ⟨by rfl, ?_⟩) (by assumption) ?_
    rotate_left
    · intro w hSw; (try dsimp only at hSw); go_simp; first | done | with_reducible rfl
    simp only [Act.put, List.getElem_toArray, List.getElem_cons_zero, List.getElem_cons_succ, List.setIfInBounds_toArray, List.set_cons_zero, List.set_cons_succ]
    refine wpAnyH_ready (rs := [24, 25, 26]) (by kernel_rfl) (by simp) ?_
    refine AllReadyH.cons rfl (fun K hK => ?_) (AllReadyH.cons rfl (fun K hK => ?_) (AllReadyH.cons rfl (fun K hK => ?_) (AllReadyH.nil)))
    · go_simp
      refine hK.out _ _ ?_ (fun hHeld => ?_)
      · exact HC.out _ (by repeat (first | exact Below.refl _ _ | refine below_dr ?_ | refine below_al ?_ | refine below_se ?_ (by omega)))
      clear hK K
      try simp only [Act.put, List.getElem_toArray, List.getElem_cons_zero, List.getElem_cons_succ, List.setIfInBounds_toArray, List.set_cons_zero, List.set_cons_succ]
      refine wpAnyH_ready (rs := [25, 26]) (by kernel_rfl) (by simp) ?_
      refine AllReadyH.cons rfl (fun K hK => ?_) (AllReadyH.cons rfl (fun K hK => ?_) (AllReadyH.nil))
      · go_simp
        refine hK.out _ _ ?_ (fun hHeld => ?_)
        · exact HC.out _ (by repeat (first | exact Below.refl _ _ | refine below_dr ?_ | refine below_al ?_ | refine below_se ?_ (by omega)))
        clear hK K
        try simp only [Act.put, List.getElem_toArray, List.getElem_cons_zero, List.getElem_cons_succ, List.setIfInBounds_toArray, List.set_cons_zero, List.set_cons_succ]
        refine wpAnyH_ready (rs := [26]) (by kernel_rfl) (by simp) ?_
        refine AllReadyH.cons rfl (fun K hK => ?_) (AllReadyH.nil)
        go_simp
        refine hK.out _ _ ?_ (fun hHeld => ?_)
        · exact HC.out _ (by repeat (first | exact Below.refl _ _ | refine below_dr ?_ | refine below_al ?_ | refine below_se ?_ (by omega)))
        clear hK K
        try simp only [Act.put, List.getElem_toArray, List.getElem_cons_zero, List.getElem_cons_succ, List.setIfInBounds_toArray, List.set_cons_zero, List.set_cons_succ]
        refine wpAnyH_ready (rs := [27]) (by kernel_rfl) (by simp) ?_
        refine AllReadyH.cons rfl (fun K hK => ?_) (AllReadyH.nil)
        go_simp
        refine hK.out _ _ ?_ (fun hHeld => ?_)
        · exact HC.out _ (by repeat (first | exact Below.refl _ _ | refine below_dr ?_ | refine below_al ?_ | refine below_se ?_ (by omega)))
        clear hK K
        try simp only [Act.put, List.getElem_toArray, List.getElem_cons_zero, List.getElem_cons_succ, List.setIfInBounds_toArray, List.set_cons_zero, List.set_cons_succ]
        refine wpAnyH_ready (rs := [28]) (by kernel_rfl) (by simp) ?_
        refine AllReadyH.cons rfl (fun K hK => ?_) (AllReadyH.nil)
        go_simp
        refine hK.out _ _ ?_ (fun hHeld => ?_)
        · exact HC.out _ (by repeat (first | exact Below.refl _ _ | refine below_dr ?_ | refine below_al ?_ | refine below_se ?_ (by omega)))
        clear hK K
        try simp only [Act.put, List.getElem_toArray, List.getElem_cons_zero, List.getElem_cons_succ, List.setIfInBounds_toArray, List.set_cons_zero, List.set_cons_succ]
        refine wpAnyH_ready (rs := [29]) (by kernel_rfl) (by simp) ?_
        refine AllReadyH.cons rfl (fun K hK => ?_) (AllReadyH.nil)
        go_simp
        refine hK.out _ _ ?_ (fun hHeld => ?_)
        · exact HC.out _ (by repeat (first | exact Below.refl _ _ | refine below_dr ?_ | refine below_al ?_ | refine below_se ?_ (by omega)))
        clear hK K
        try simp only [Act.put, List.getElem_toArray, List.getElem_cons_zero, List.getElem_cons_succ, List.setIfInBounds_toArray, List.set_cons_zero, List.set_cons_succ]
        refine wpAnyH_done (by kernel_rfl) ?_ _
        refine NoPanic.normal ?_
        go_wp2_with fail
        go_meet
        case rel =>
          first
            | exact ⟨_, _, _, rfl, rfl, rfl, (H2.out.1.new3 H2.out.2.1 H2.out.2.2.1 H2.out.2.2.2).dr.sub (by simp) (by simp <;> omega)⟩
            | exact ⟨_, _, _, rfl, rfl, rfl, (H2.out.1.new3 H2.out.2.1 H2.out.2.2.2 H2.out.2.2.1).dr.sub (by simp) (by simp <;> omega)⟩
            | exact ⟨_, _, _, rfl, rfl, rfl, (H2.out.1.new3 H2.out.2.2.1 H2.out.2.1 H2.out.2.2.2).dr.sub (by simp) (by simp <;> omega)⟩
            | exact ⟨_, _, _, rfl, rfl, rfl, (H2.out.1.new3 H2.out.2.2.1 H2.out.2.2.2 H2.out.2.1).dr.sub (by simp) (by simp <;> omega)⟩
            | exact ⟨_, _, _, rfl, rfl, rfl, (H2.out.1.new3 H2.out.2.2.2 H2.out.2.1 H2.out.2.2.1).dr.sub (by simp) (by simp <;> omega)⟩
            | exact ⟨_, _, _, rfl, rfl, rfl, (H2.out.1.new3 H2.out.2.2.2 H2.out.2.2.1 H2.out.2.1).dr.sub (by simp) (by simp <;> omega)⟩
      · go_simp
        refine hK.out _ _ ?_ (fun hHeld => ?_)
        · exact HC.out _ (by repeat (first | exact Below.refl _ _ | refine below_dr ?_ | refine below_al ?_ | refine below_se ?_ (by omega)))
        clear hK K
        try simp only [Act.put, List.getElem_toArray, List.getElem_cons_zero, List.getElem_cons_succ, List.setIfInBounds_toArray, List.set_cons_zero, List.set_cons_succ]
        refine wpAnyH_ready (rs := [25]) (by kernel_rfl) (by simp) ?_
        refine AllReadyH.cons rfl (fun K hK => ?_) (AllReadyH.nil)
        go_simp
        refine hK.out _ _ ?_ (fun hHeld => ?_)
        · exact HC.out _ (by repeat (first | exact Below.refl _ _ | refine below_dr ?_ | refine below_al ?_ | refine below_se ?_ (by omega)))
        clear hK K
        try simp only [Act.put, List.getElem_toArray, List.getElem_cons_zero, List.getElem_cons_succ, List.setIfInBounds_toArray, List.set_cons_zero, List.set_cons_succ]
        refine wpAnyH_ready (rs := [27]) (by kernel_rfl) (by simp) ?_
        refine AllReadyH.cons rfl (fun K hK => ?_) (AllReadyH.nil)
        go_simp
        refine hK.out _ _ ?_ (fun hHeld => ?_)
        · exact HC.out _ (by repeat (first | exact Below.refl _ _ | refine below_dr ?_ | refine below_al ?_ | refine below_se ?_ (by omega)))
        clear hK K
        try simp only [Act.put, List.getElem_toArray, List.getElem_cons_zero, List.getElem_cons_succ, List.setIfInBounds_toArray, List.set_cons_zero, List.set_cons_succ]
        refine wpAnyH_ready (rs := [28]) (by kernel_rfl) (by simp) ?_
        refine AllReadyH.cons rfl (fun K hK => ?_) (AllReadyH.nil)
        go_simp
        refine hK.out _ _ ?_ (fun hHeld => ?_)
        · exact HC.out _ (by repeat (first | exact Below.refl _ _ | refine below_dr ?_ | refine below_al ?_ | refine below_se ?_ (by omega)))
        clear hK K
        try simp only [Act.put, List.getElem_toArray, List.getElem_cons_zero, List.getElem_cons_succ, List.setIfInBounds_toArray, List.set_cons_zero, List.set_cons_succ]
        refine wpAnyH_ready (rs := [29]) (by kernel_rfl) (by simp) ?_
        refine AllReadyH.cons rfl (fun K hK => ?_) (AllReadyH.nil)
        go_simp
        refine hK.out _ _ ?_ (fun hHeld => ?_)
        · exact HC.out _ (by repeat (first | exact Below.refl _ _ | refine below_dr ?_ | refine below_al ?_ | refine below_se ?_ (by omega)))
        clear hK K
        try simp only [Act.put, List.getElem_toArray, List.getElem_cons_zero, List.getElem_cons_succ, List.setIfInBounds_toArray, List.set_cons_zero, List.set_cons_succ]
        refine wpAnyH_done (by kernel_rfl) ?_ _
        refine NoPanic.normal ?_
        go_wp2_with fail
        go_meet
        case rel =>
          first
            | exact ⟨_, _, _, rfl, rfl, rfl, (H2.out.1.new3 H2.out.2.1 H2.out.2.2.1 H2.out.2.2.2).dr.sub (by simp) (by simp <;> omega)⟩
            | exact ⟨_, _, _, rfl, rfl, rfl, (H2.out.1.new3 H2.out.2.1 H2.out.2.2.2 H2.out.2.2.1).dr.sub (by simp) (by simp <;> omega)⟩
            | exact ⟨_, _, _, rfl, rfl, rfl, (H2.out.1.new3 H2.out.2.2.1 H2.out.2.1 H2.out.2.2.2).dr.sub (by simp) (by simp <;> omega)⟩
            | exact ⟨_, _, _, rfl, rfl, rfl, (H2.out.1.new3 H2.out.2.2.1 H2.out.2.2.2 H2.out.2.1).dr.sub (by simp) (by simp <;> omega)⟩
            | exact ⟨_, _, _, rfl, rfl, rfl, (H2.out.1.new3 H2.out.2.2.2 H2.out.2.1 H2.out.2.2.1).dr.sub (by simp) (by simp <;> omega)⟩
            | exact ⟨_, _, _, rfl, rfl, rfl, (H2.out.1.new3 H2.out.2.2.2 H2.out.2.2.1 H2.out.2.1).dr.sub (by simp) (by simp <;> omega)⟩
    · go_simp
      refine hK.out _ _ ?_ (fun hHeld => ?_)
      · exact HC.out _ (by repeat (first | exact Below.refl _ _ | refine below_dr ?_ | refine below_al ?_ | refine below_se ?_ (by omega)))
      clear hK K
      try simp only [Act.put, List.getElem_toArray, List.getElem_cons_zero, List.getElem_cons_succ, List.setIfInBounds_toArray, List.set_cons_zero, List.set_cons_succ]
      refine wpAnyH_ready (rs := [24, 26]) (by kernel_rfl) (by simp) ?_
      refine AllReadyH.cons rfl (fun K hK => ?_) (AllReadyH.cons rfl (fun K hK => ?_) (AllReadyH.nil))
      · go_simp
        refine hK.out _ _ ?_ (fun hHeld => ?_)
        · exact HC.out _ (by repeat (first | exact Below.refl _ _ | refine below_dr ?_ | refine below_al ?_ | refine below_se ?_ (by omega)))
        clear hK K
        try simp only [Act.put, List.getElem_toArray, List.getElem_cons_zero, List.getElem_cons_succ, List.setIfInBounds_toArray, List.set_cons_zero, List.set_cons_succ]
        refine wpAnyH_ready (rs := [26]) (by kernel_rfl) (by simp) ?_
        refine AllReadyH.cons rfl (fun K hK => ?_) (AllReadyH.nil)
        go_simp
        refine hK.out _ _ ?_ (fun hHeld => ?_)
        · exact HC.out _ (by repeat (first | exact Below.refl _ _ | refine below_dr ?_ | refine below_al ?_ | refine below_se ?_ (by omega)))
        clear hK K
        try simp only [Act.put, List.getElem_toArray, List.getElem_cons_zero, List.getElem_cons_succ, List.setIfInBounds_toArray, List.set_cons_zero, List.set_cons_succ]
        refine wpAnyH_ready (rs := [27]) (by kernel_rfl) (by simp) ?_
        refine AllReadyH.cons rfl (fun K hK => ?_) (AllReadyH.nil)
        go_simp
        refine hK.out _ _ ?_ (fun hHeld => ?_)
        · exact HC.out _ (by repeat (first | exact Below.refl _ _ | refine below_dr ?_ | refine below_al ?_ | refine below_se ?_ (by omega)))
        clear hK K
        try simp only [Act.put, List.getElem_toArray, List.getElem_cons_zero, List.getElem_cons_succ, List.setIfInBounds_toArray, List.set_cons_zero, List.set_cons_succ]
        refine wpAnyH_ready (rs := [28]) (by kernel_rfl) (by simp) ?_
        refine AllReadyH.cons rfl (fun K hK => ?_) (AllReadyH.nil)
        go_simp
        refine hK.out _ _ ?_ (fun hHeld => ?_)
        · exact HC.out _ (by repeat (first | exact Below.refl _ _ | refine below_dr ?_ | refine below_al ?_ | refine below_se ?_ (by omega)))
        clear hK K
        try simp only [Act.put, List.getElem_toArray, List.getElem_cons_zero, List.getElem_cons_succ, List.setIfInBounds_toArray, List.set_cons_zero, List.set_cons_succ]
        refine wpAnyH_ready (rs := [29]) (by kernel_rfl) (by simp) ?_
        refine AllReadyH.cons rfl (fun K hK => ?_) (AllReadyH.nil)
        go_simp
        refine hK.out _ _ ?_ (fun hHeld => ?_)
        · exact HC.out _ (by repeat (first | exact Below.refl _ _ | refine below_dr ?_ | refine below_al ?_ | refine below_se ?_ (by omega)))
        clear hK K
        try simp only [Act.put, List.getElem_toArray, List.getElem_cons_zero, List.getElem_cons_succ, List.setIfInBounds_toArray, List.set_cons_zero, List.set_cons_succ]
        refine wpAnyH_done (by kernel_rfl) ?_ _
        refine NoPanic.normal ?_
        go_wp2_with fail
        go_meet
        case rel =>
          first
            | exact ⟨_, _, _, rfl, rfl, rfl, (H2.out.1.new3 H2.out.2.1 H2.out.2.2.1 H2.out.2.2.2).dr.sub (by simp) (by simp <;> omega)⟩
            | exact ⟨_, _, _, rfl, rfl, rfl, (H2.out.1.new3 H2.out.2.1 H2.out.2.2.2 H2.out.2.2.1).dr.sub (by simp) (by simp <;> omega)⟩
            | exact ⟨_, _, _, rfl, rfl, rfl, (H2.out.1.new3 H2.out.2.2.1 H2.out.2.1 H2.out.2.2.2).dr.sub (by simp) (by simp <;> omega)⟩
            | exact ⟨_, _, _, rfl, rfl, rfl, (H2.out.1.new3 H2.out.2.2.1 H2.out.2.2.2 H2.out.2.1).dr.sub (by simp) (by simp <;> omega)⟩
            | exact ⟨_, _, _, rfl, rfl, rfl, (H2.out.1.new3 H2.out.2.2.2 H2.out.2.1 H2.out.2.2.1).dr.sub (by simp) (by simp <;> omega)⟩
            | exact ⟨_, _, _, rfl, rfl, rfl, (H2.out.1.new3 H2.out.2.2.2 H2.out.2.2.1 H2.out.2.1).dr.sub (by simp) (by simp <;> omega)⟩
      · go_simp
        refine hK.out _ _ ?_ (fun hHeld => ?_)
        · exact HC.out _ (by repeat (first | exact Below.refl _ _ | refine below_dr ?_ | refine below_al ?_ | refine below_se ?_ (by omega)))
        clear hK K
        try simp only [Act.put, List.getElem_toArray, List.getElem_cons_zero, List.getElem_cons_succ, List.setIfInBounds_toArray, List.set_cons_zero, List.set_cons_succ]
        refine wpAnyH_ready (rs := [24]) (by kernel_rfl) (by simp) ?_
        refine AllReadyH.cons rfl (fun K hK => ?_) (AllReadyH.nil)
        go_simp
        refine hK.out _ _ ?_ (fun hHeld => ?_)
        · exact HC.out _ (by repeat (first | exact Below.refl _ _ | refine below_dr ?_ | refine below_al ?_ | refine below_se ?_ (by omega)))
        clear hK K
        try simp only [Act.put, List.getElem_toArray, List.getElem_cons_zero, List.getElem_cons_succ, List.setIfInBounds_toArray, List.set_cons_zero, List.set_cons_succ]
        refine wpAnyH_ready (rs := [27]) (by kernel_rfl) (by simp) ?_
        refine AllReadyH.cons rfl (fun K hK => ?_) (AllReadyH.nil)
        go_simp
        refine hK.out _ _ ?_ (fun hHeld => ?_)
        · exact HC.out _ (by repeat (first | exact Below.refl _ _ | refine below_dr ?_ | refine below_al ?_ | refine below_se ?_ (by omega)))
        clear hK K
        try simp only [Act.put, List.getElem_toArray, List.getElem_cons_zero, List.getElem_cons_succ, List.setIfInBounds_toArray, List.set_cons_zero, List.set_cons_succ]
        refine wpAnyH_ready (rs := [28]) (by kernel_rfl) (by simp) ?_
        refine AllReadyH.cons rfl (fun K hK => ?_) (AllReadyH.nil)
        go_simp
        refine hK.out _ _ ?_ (fun hHeld => ?_)
        · exact HC.out _ (by repeat (first | exact Below.refl _ _ | refine below_dr ?_ | refine below_al ?_ | refine below_se ?_ (by omega)))
        clear hK K
        try simp only [Act.put, List.getElem_toArray, List.getElem_cons_zero, List.getElem_cons_succ, List.setIfInBounds_toArray, List.set_cons_zero, List.set_cons_succ]
        refine wpAnyH_ready (rs := [29]) (by kernel_rfl) (by simp) ?_
        refine AllReadyH.cons rfl (fun K hK => ?_) (AllReadyH.nil)
        go_simp
        refine hK.out _ _ ?_ (fun hHeld => ?_)
        · exact HC.out _ (by repeat (first | exact Below.refl _ _ | refine below_dr ?_ | refine below_al ?_ | refine below_se ?_ (by omega)))
        clear hK K
        try simp only [Act.put, List.getElem_toArray, List.getElem_cons_zero, List.getElem_cons_succ, List.setIfInBounds_toArray, List.set_cons_zero, List.set_cons_succ]
        refine wpAnyH_done (by kernel_rfl) ?_ _
        refine NoPanic.normal ?_
        go_wp2_with fail
        go_meet
        case rel =>
          first
            | exact ⟨_, _, _, rfl, rfl, rfl, (H2.out.1.new3 H2.out.2.1 H2.out.2.2.1 H2.out.2.2.2).dr.sub (by simp) (by simp <;> omega)⟩
            | exact ⟨_, _, _, rfl, rfl, rfl, (H2.out.1.new3 H2.out.2.1 H2.out.2.2.2 H2.out.2.2.1).dr.sub (by simp) (by simp <;> omega)⟩
            | exact ⟨_, _, _, rfl, rfl, rfl, (H2.out.1.new3 H2.out.2.2.1 H2.out.2.1 H2.out.2.2.2).dr.sub (by simp) (by simp <;> omega)⟩
            | exact ⟨_, _, _, rfl, rfl, rfl, (H2.out.1.new3 H2.out.2.2.1 H2.out.2.2.2 H2.out.2.1).dr.sub (by simp) (by simp <;> omega)⟩
            | exact ⟨_, _, _, rfl, rfl, rfl, (H2.out.1.new3 H2.out.2.2.2 H2.out.2.1 H2.out.2.2.1).dr.sub (by simp) (by simp <;> omega)⟩
            | exact ⟨_, _, _, rfl, rfl, rfl, (H2.out.1.new3 H2.out.2.2.2 H2.out.2.2.1 H2.out.2.1).dr.sub (by simp) (by simp <;> omega)⟩
    · go_simp
      refine hK.out _ _ ?_ (fun hHeld => ?_)
      · exact HC.out _ (by repeat (first | exact Below.refl _ _ | refine below_dr ?_ | refine below_al ?_ | refine below_se ?_ (by omega)))
      clear hK K
      try simp only [Act.put, List.getElem_toArray, List.getElem_cons_zero, List.getElem_cons_succ, List.setIfInBounds_toArray, List.set_cons_zero, List.set_cons_succ]
      refine wpAnyH_ready (rs := [24, 25]) (by kernel_rfl) (by simp) ?_
      refine AllReadyH.cons rfl (fun K hK => ?_) (AllReadyH.cons rfl (fun K hK => ?_) (AllReadyH.nil))
      · go_simp
        refine hK.out _ _ ?_ (fun hHeld => ?_)
        · exact HC.out _ (by repeat (first | exact Below.refl _ _ | refine below_dr ?_ | refine below_al ?_ | refine below_se ?_ (by omega)))
        clear hK K
        try simp only [Act.put, List.getElem_toArray, List.getElem_cons_zero, List.getElem_cons_succ, List.setIfInBounds_toArray, List.set_cons_zero, List.set_cons_succ]
        refine wpAnyH_ready (rs := [25]) (by kernel_rfl) (by simp) ?_
        refine AllReadyH.cons rfl (fun K hK => ?_) (AllReadyH.nil)
        go_simp
        refine hK.out _ _ ?_ (fun hHeld => ?_)
        · exact HC.out _ (by repeat (first | exact Below.refl _ _ | refine below_dr ?_ | refine below_al ?_ | refine below_se ?_ (by omega)))
        clear hK K
        try simp only [Act.put, List.getElem_toArray, List.getElem_cons_zero, List.getElem_cons_succ, List.setIfInBounds_toArray, List.set_cons_zero, List.set_cons_succ]
        refine wpAnyH_ready (rs := [27]) (by kernel_rfl) (by simp) ?_
        refine AllReadyH.cons rfl (fun K hK => ?_) (AllReadyH.nil)
        go_simp
        refine hK.out _ _ ?_ (fun hHeld => ?_)
        · exact HC.out _ (by repeat (first | exact Below.refl _ _ | refine below_dr ?_ | refine below_al ?_ | refine below_se ?_ (by omega)))
        clear hK K
        try simp only [Act.put, List.getElem_toArray, List.getElem_cons_zero, List.getElem_cons_succ, List.setIfInBounds_toArray, List.set_cons_zero, List.set_cons_succ]
        refine wpAnyH_ready (rs := [28]) (by kernel_rfl) (by simp) ?_
        refine AllReadyH.cons rfl (fun K hK => ?_) (AllReadyH.nil)
        go_simp
        refine hK.out _ _ ?_ (fun hHeld => ?_)
        · exact HC.out _ (by repeat (first | exact Below.refl _ _ | refine below_dr ?_ | refine below_al ?_ | refine below_se ?_ (by omega)))
        clear hK K
        try simp only [Act.put, List.getElem_toArray, List.getElem_cons_zero, List.getElem_cons_succ, List.setIfInBounds_toArray, List.set_cons_zero, List.set_cons_succ]
        refine wpAnyH_ready (rs := [29]) (by kernel_rfl) (by simp) ?_
        refine AllReadyH.cons rfl (fun K hK => ?_) (AllReadyH.nil)
        go_simp
        refine hK.out _ _ ?_ (fun hHeld => ?_)
        · exact HC.out _ (by repeat (first | exact Below.refl _ _ | refine below_dr ?_ | refine below_al ?_ | refine below_se ?_ (by omega)))
        clear hK K
        try simp only [Act.put, List.getElem_toArray, List.getElem_cons_zero, List.getElem_cons_succ, List.setIfInBounds_toArray, List.set_cons_zero, List.set_cons_succ]
        refine wpAnyH_done (by kernel_rfl) ?_ _
        refine NoPanic.normal ?_
        go_wp2_with fail
        go_meet
        case rel =>
          first
            | exact ⟨_, _, _, rfl, rfl, rfl, (H2.out.1.new3 H2.out.2.1 H2.out.2.2.1 H2.out.2.2.2).dr.sub (by simp) (by simp <;> omega)⟩
            | exact ⟨_, _, _, rfl, rfl, rfl, (H2.out.1.new3 H2.out.2.1 H2.out.2.2.2 H2.out.2.2.1).dr.sub (by simp) (by simp <;> omega)⟩
            | exact ⟨_, _, _, rfl, rfl, rfl, (H2.out.1.new3 H2.out.2.2.1 H2.out.2.1 H2.out.2.2.2).dr.sub (by simp) (by simp <;> omega)⟩
            | exact ⟨_, _, _, rfl, rfl, rfl, (H2.out.1.new3 H2.out.2.2.1 H2.out.2.2.2 H2.out.2.1).dr.sub (by simp) (by simp <;> omega)⟩
            | exact ⟨_, _, _, rfl, rfl, rfl, (H2.out.1.new3 H2.out.2.2.2 H2.out.2.1 H2.out.2.2.1).dr.sub (by simp) (by simp <;> omega)⟩
            | exact ⟨_, _, _, rfl, rfl, rfl, (H2.out.1.new3 H2.out.2.2.2 H2.out.2.2.1 H2.out.2.1).dr.sub (by simp) (by simp <;> omega)⟩
      · go_simp
        refine hK.out _ _ ?_ (fun hHeld => ?_)
        · exact HC.out _ (by repeat (first | exact Below.refl _ _ | refine below_dr ?_ | refine below_al ?_ | refine below_se ?_ (by omega)))
        clear hK K
        try simp only [Act.put, List.getElem_toArray, List.getElem_cons_zero, List.getElem_cons_succ, List.setIfInBounds_toArray, List.set_cons_zero, List.set_cons_succ]
        refine wpAnyH_ready (rs := [24]) (by kernel_rfl) (by simp) ?_
        refine AllReadyH.cons rfl (fun K hK => ?_) (AllReadyH.nil)
        go_simp
        refine hK.out _ _ ?_ (fun hHeld => ?_)
        · exact HC.out _ (by repeat (first | exact Below.refl _ _ | refine below_dr ?_ | refine below_al ?_ | refine below_se ?_ (by omega)))
        clear hK K
        try simp only [Act.put, List.getElem_toArray, List.getElem_cons_zero, List.getElem_cons_succ, List.setIfInBounds_toArray, List.set_cons_zero, List.set_cons_succ]
        refine wpAnyH_ready (rs := [27]) (by kernel_rfl) (by simp) ?_
        refine AllReadyH.cons rfl (fun K hK => ?_) (AllReadyH.nil)
        go_simp
        refine hK.out _ _ ?_ (fun hHeld => ?_)
        · exact HC.out _ (by repeat (first | exact Below.refl _ _ | refine below_dr ?_ | refine below_al ?_ | refine below_se ?_ (by omega)))
        clear hK K
        try simp only [Act.put, List.getElem_toArray, List.getElem_cons_zero, List.getElem_cons_succ, List.setIfInBounds_toArray, List.set_cons_zero, List.set_cons_succ]
        refine wpAnyH_ready (rs := [28]) (by kernel_rfl) (by simp) ?_
        refine AllReadyH.cons rfl (fun K hK => ?_) (AllReadyH.nil)
        go_simp
        refine hK.out _ _ ?_ (fun hHeld => ?_)
        · exact HC.out _ (by repeat (first | exact Below.refl _ _ | refine below_dr ?_ | refine below_al ?_ | refine below_se ?_ (by omega)))
        clear hK K
        try simp only [Act.put, List.getElem_toArray, List.getElem_cons_zero, List.getElem_cons_succ, List.setIfInBounds_toArray, List.set_cons_zero, List.set_cons_succ]
        refine wpAnyH_ready (rs := [29]) (by kernel_rfl) (by simp) ?_
        refine AllReadyH.cons rfl (fun K hK => ?_) (AllReadyH.nil)
        go_simp
        refine hK.out _ _ ?_ (fun hHeld => ?_)
        · exact HC.out _ (by repeat (first | exact Below.refl _ _ | refine below_dr ?_ | refine below_al ?_ | refine below_se ?_ (by omega)))
        clear hK K
        try simp only [Act.put, List.getElem_toArray, List.getElem_cons_zero, List.getElem_cons_succ, List.setIfInBounds_toArray, List.set_cons_zero, List.set_cons_succ]
        refine wpAnyH_done (by kernel_rfl) ?_ _
        refine NoPanic.normal ?_
        go_wp2_with fail
        go_meet
        case rel =>
          first
            | exact ⟨_, _, _, rfl, rfl, rfl, (H2.out.1.new3 H2.out.2.1 H2.out.2.2.1 H2.out.2.2.2).dr.sub (by simp) (by simp <;> omega)⟩
            | exact ⟨_, _, _, rfl, rfl, rfl, (H2.out.1.new3 H2.out.2.1 H2.out.2.2.2 H2.out.2.2.1).dr.sub (by simp) (by simp <;> omega)⟩
            | exact ⟨_, _, _, rfl, rfl, rfl, (H2.out.1.new3 H2.out.2.2.1 H2.out.2.1 H2.out.2.2.2).dr.sub (by simp) (by simp <;> omega)⟩
            | exact ⟨_, _, _, rfl, rfl, rfl, (H2.out.1.new3 H2.out.2.2.1 H2.out.2.2.2 H2.out.2.1).dr.sub (by simp) (by simp <;> omega)⟩
            | exact ⟨_, _, _, rfl, rfl, rfl, (H2.out.1.new3 H2.out.2.2.2 H2.out.2.1 H2.out.2.2.1).dr.sub (by simp) (by simp <;> omega)⟩
            | exact ⟨_, _, _, rfl, rfl, rfl, (H2.out.1.new3 H2.out.2.2.2 H2.out.2.2.1 H2.out.2.1).dr.sub (by simp) (by simp <;> omega)⟩
  case rest =>
    obtain ⟨k6, k7, k8, rfl, rfl, rfl, hS⟩ := hcut
    obtain ⟨W3, hW3⟩ : ∃ W3, W3 = wc := ⟨_, rfl⟩
    rw [← hW3] at hS ⊢
    clear hW3 H2 HC HR
    have S := Sealed.mk hS; clear hS
    have cx := S.out.cell 0 rfl
    have cy := S.out.cell 1 rfl
    obtain ⟨c, hc⟩ : ∃ c, c = sg (x - y) := ⟨_, rfl⟩
    have HCC := Sealed.mk hc; clear hc
    go_upto_region 4 with (go_at_call 37; go_must ((with_reducible refine (Cmp_any (S.out.cnum 0 rfl) (S.out.cnum 1 rfl)).mono ?_); rintro e w3 ⟨rfl, hb3⟩; rw [← HCC.out]; replace S := Sealed.mk (S.out.adv hb3); clear hb3))
    clear cx cy
    go_cut [76] from 45 to 76 (fun v wx => v = .bool false ∧ Below w3.heap.size w3 wx)
    case first =>
      have hof0 := fun W => Of_one (n := 0) (by unfold Is64; decide) W
      have hs0 : sg (x - 0) = sg x := by rw [Int.sub_zero]
      obtain ⟨s, hs⟩ : ∃ s, s = sg x := ⟨_, rfl⟩
      have hyx : sg (y - x) = -c := by rw [HCC.out]; exact sg_swap x y
      have hnn : sg (-x - -y) = -c := by rw [HCC.out]; exact sg_neg3 x y
      rw [← hs] at hs0
      have HF := Sealed.mk (And.intro hof0 (And.intro hs0 (And.intro hs (And.intro hyx hnn)))); clear hof0 hs0 hs hyx hnn
      have hcc : c = -1 ∨ c = 0 ∨ c = 1 := by
        rcases sg_cases (x - y) with ⟨-, h⟩ | ⟨-, h⟩ | ⟨-, h⟩
        · exact .inl (HCC.out.trans h)
        · exact .inr (.inl (HCC.out.trans h))
        · exact .inr (.inr (HCC.out.trans h))
      have HB := Sealed.mk (below_drew w3)
      replace S := Sealed.mk S.out.dr
      have q1 : ¬ c < -1 := by omega
      have q2 : ¬ 1 < c := by omega
      have q3 : IntKind.i64.wrap (-c) = -c := by rw [IntKind.wrap_i64]; omega
      clear hcc
      go_region_held3 (fun W => W.cell? ⟨k6, 0, none⟩ = some (.pointer px) ∧ W.cell? ⟨k7, 0, none⟩ = some (.pointer py))
        (exact ⟨S.out.cell 0 rfl, S.out.cell 1 rfl⟩)
        (first
          | (go_at_call 37; go_must (first
              | ((with_reducible refine (Cmp_any (S.out.cnum 1 rfl) (S.out.cnum 0 rfl)).mono ?_); rintro e w4 ⟨rfl, hb⟩; rw [HF.out.2.2.2.1]; replace S := Sealed.mk (S.out.adv hb); replace HB := Sealed.mk (below_chain HB.out hb); clear hb)
              | ((with_reducible refine (Cmp_any (S.out.num 1 rfl) (S.out.num 0 rfl)).mono ?_); rintro e w4 ⟨rfl, hb⟩; rw [HF.out.2.2.2.2]; replace S := Sealed.mk (S.out.adv hb); replace HB := Sealed.mk (below_chain HB.out hb); clear hb)
              | ((with_reducible refine (Cmp_any (S.out.cnum 0 rfl) (S.out.num 0 rfl)).mono ?_); rintro e w4 ⟨rfl, hb⟩; rw [HF.out.2.1]; replace S := Sealed.mk (S.out.adv hb); replace HB := Sealed.mk (below_chain HB.out hb); clear hb)))
          | (go_at_call 39; go_must (first
              | ((with_reducible refine (Neg_one (S.out.cnum 0 rfl)).mono ?_); rintro e w5 ⟨p5, rfl, hb, hn⟩; replace S := Sealed.mk (S.out.res hb hn); replace HB := Sealed.mk (below_chain HB.out hb); clear hb hn)
              | ((with_reducible refine (Neg_one (S.out.cnum 1 rfl)).mono ?_); rintro e w6 ⟨p6, rfl, hb, hn⟩; replace S := Sealed.mk (S.out.res hb hn); replace HB := Sealed.mk (below_chain HB.out hb); clear hb hn)))
          | (go_at_call 21; go_must ((with_reducible refine (HF.out.1 _).mono ?_); rintro e w7 ⟨p7, rfl, hb, hn⟩; replace S := Sealed.mk (S.out.res hb hn); replace HB := Sealed.mk (below_chain HB.out hb); clear hb hn))
          | (go_at_call 42; go_must ((with_reducible refine (Sign_any (S.out.cnum 0 rfl)).mono ?_); rintro e w8 ⟨rfl, hb⟩; rw [← HF.out.2.2.1]; replace S := Sealed.mk (S.out.adv hb); replace HB := Sealed.mk (below_chain HB.out hb); clear hb)))
      all_goals
        go_wp2_with fail
        go_meet
        case rel => exact ⟨by first | rfl | simp, HB.out⟩
    case rest =>
      obtain ⟨rfl, hbc⟩ := hcut
      obtain ⟨W4, hW4⟩ : ∃ W4, W4 = wc := ⟨_, rfl⟩
      rw [← hW4] at hbc ⊢
      clear hW4
      replace S := Sealed.mk (S.out.adv hbc)
      clear hbc
      go_upto_region 6 with fail
      go_cut [106] from 77 to 106 (fun v wx => v = .bool false ∧ Below W4.heap.size W4 wx)
      case first =>
        have HB := Sealed.mk (Below.refl W4.heap.size W4)
        have cx := S.out.cell 0 rfl
        have cy := S.out.cell 1 rfl
        have cz := S.out.cell 2 rfl
        have hways : (c = 1) ∨ (c = 0 ∧ sg (y - z) = 1) ∨ (c = -1 ∧ sg (y - z) = 1) ∨ (c = 0 ∧ sg (y - z) = 0 ∧ sg (x - z) = 0) ∨ (c = 0 ∧ sg (y - z) = -1 ∧ sg (x - z) = -1) ∨ (c = -1 ∧ sg (y - z) = 0 ∧ sg (x - z) = -1) ∨ (c = -1 ∧ sg (y - z) = -1 ∧ sg (x - z) = -1) := by
          rw [HCC.out]
          rcases sg_cases (x - y) with ⟨h1, e1⟩ | ⟨h1, e1⟩ | ⟨h1, e1⟩ <;> rcases sg_cases (y - z) with ⟨h2, e2⟩ | ⟨h2, e2⟩ | ⟨h2, e2⟩ <;> rcases sg_cases (x - z) with ⟨h3, e3⟩ | ⟨h3, e3⟩ | ⟨h3, e3⟩ <;> rw [e1, e2, e3] <;> omega
        rcases hways with rfl | ⟨rfl, hyz⟩ | ⟨rfl, hyz⟩ | ⟨rfl, hyz, hxz⟩ | ⟨rfl, hyz, hxz⟩ | ⟨rfl, hyz, hxz⟩ | ⟨rfl, hyz, hxz⟩
        · go_wp2_with fail
          go_meet
          case rel => exact ⟨by first | rfl | simp, HB.out⟩
        all_goals
          have HYZ := Sealed.mk hyz
          clear hyz
          try (have HXZ := Sealed.mk hxz; clear hxz)
          go_wp2_with (go_at_call 37; go_must (first
            | ((with_reducible refine (Cmp_any (S.out.cnum 1 rfl) (S.out.cnum 2 rfl)).mono ?_); rintro e w5 ⟨rfl, hb⟩; rw [HYZ.out]; replace S := Sealed.mk (S.out.adv hb); replace HB := Sealed.mk (below_chain HB.out hb); have cx' := S.out.cell 0 rfl; have cy' := S.out.cell 1 rfl; have cz' := S.out.cell 2 rfl; clear hb)
            | ((with_reducible refine (Cmp_any (S.out.cnum 0 rfl) (S.out.cnum 2 rfl)).mono ?_); rintro e w6 ⟨rfl, hb⟩; rw [HXZ.out]; replace S := Sealed.mk (S.out.adv hb); replace HB := Sealed.mk (below_chain HB.out hb); have cx' := S.out.cell 0 rfl; have cy' := S.out.cell 1 rfl; have cz' := S.out.cell 2 rfl; clear hb)))
          go_meet
          case rel => exact ⟨by first | rfl | simp, HB.out⟩
      case rest =>
        obtain ⟨rfl, hbc⟩ := hcut
        obtain ⟨W5, hW5⟩ : ∃ W5, W5 = wc := ⟨_, rfl⟩
        rw [← hW5] at hbc ⊢
        clear hW5
        replace S := Sealed.mk (S.out.adv hbc)
        clear hbc
        go_upto_region 8 with fail
        have cx := S.out.cell 0 rfl
        have cy := S.out.cell 1 rfl
        obtain ⟨zd, ed, hd, hdd⟩ := gv_two (x - y)
        have HD := Sealed.mk (And.intro hd hdd); clear hd hdd
        go_upto_region 9 with (go_at_call 33; go_must ((with_reducible refine (Sub_two HD.out.1 (S.out.cnum 0 rfl) (S.out.cnum 1 rfl)).mono ?_); rintro e w6 ⟨p6, rfl, hb, hn⟩; replace S := Sealed.mk (S.out.res hb hn); clear hb hn))
        have S0 := (S.out.new (S.out.num 0 rfl)).clr
        obtain ⟨W6, hW6⟩ : ∃ W6, W6 = w6.alloc (.cells #[.pointer p6] 30) := ⟨_, rfl⟩
        rw [← hW6] at S0 ⊢
        replace S := Sealed.mk S0; clear S0 cx cy hW6
        go_cut [128] from 113 to 128 (fun v wx => v = .bool false ∧ Below W6.heap.size W6 wx)
        case first =>
          have HB := Sealed.mk (Below.refl W6.heap.size W6)
          have cx := S.out.cell 0 rfl
          obtain ⟨-, hways⟩ := HD.out
          rcases hways with ⟨rfl, rfl⟩ | ⟨rfl, rfl⟩
          all_goals
            go_wp2_with (go_at_call 42; go_must ((with_reducible refine (Sign_any (S.out.cnum 0 rfl)).mono ?_); rintro e w7 ⟨rfl, hb⟩; rw [← HCC.out]; replace HB := Sealed.mk (below_chain HB.out hb); clear hb))
            go_meet
            case rel => exact ⟨by first | rfl | simp, HB.out⟩
        case rest =>
          obtain ⟨rfl, hbc⟩ := hcut
          obtain ⟨W7, hW7⟩ : ∃ W7, W7 = wc := ⟨_, rfl⟩
          rw [← hW7] at hbc ⊢
          clear hW7
          replace S := Sealed.mk (S.out.adv hbc)
          clear hbc
          go_upto_region 11 with fail
          have cx := S.out.cell 1 rfl
          have cz := S.out.cell 3 rfl
          obtain ⟨zs1, es1, hs1, hss1⟩ := gv_two (x + z)
          have HS1 := Sealed.mk (And.intro hs1 hss1); clear hs1 hss1
          go_upto_region 12 with (go_at_call 32; go_must ((with_reducible refine (Add_two HS1.out.1 (S.out.cnum 1 rfl) (S.out.cnum 3 rfl)).mono ?_); rintro e w8 ⟨p8, rfl, hb, hn⟩; replace S := Sealed.mk (S.out.res hb hn); clear hb hn))
          have S0 := (S.out.new (S.out.num 0 rfl)).clr
          obtain ⟨W8, hW8⟩ : ∃ W8, W8 = w8.alloc (.cells #[.pointer p8] 30) := ⟨_, rfl⟩
          rw [← hW8] at S0 ⊢
          replace S := Sealed.mk S0; clear S0 cx cz hW8
          have cy := S.out.cell 3 rfl
          have cz := S.out.cell 4 rfl
          obtain ⟨zs2, es2, hs2, hss2⟩ := gv_two (y + z)
          have HS2 := Sealed.mk (And.intro hs2 hss2); clear hs2 hss2
          go_upto_region 13 with (go_at_call 32; go_must ((with_reducible refine (Add_two HS2.out.1 (S.out.cnum 3 rfl) (S.out.cnum 4 rfl)).mono ?_); rintro e w9 ⟨p9, rfl, hb, hn⟩; replace S := Sealed.mk (S.out.res hb hn); clear hb hn))
          have S0 := (S.out.new (S.out.num 0 rfl)).clr
          obtain ⟨W9, hW9⟩ : ∃ W9, W9 = w9.alloc (.cells #[.pointer p9] 30) := ⟨_, rfl⟩
          rw [← hW9] at S0 ⊢
          replace S := Sealed.mk S0; clear S0 cy cz hW9
          have hxyz : sg (x + z - (y + z)) = c := by rw [HCC.out]; congr 1; omega
          have HXYZ := Sealed.mk hxyz; clear hxyz
          obtain ⟨-, w1⟩ := HS1.out
          obtain ⟨-, w2⟩ := HS2.out
          have c1 := S.out.cell 1 rfl
          have c2 := S.out.cell 0 rfl
          rcases w1 with ⟨rfl, rfl⟩ | ⟨rfl, rfl⟩ <;> rcases w2 with ⟨rfl, rfl⟩ | ⟨rfl, rfl⟩
          all_goals
            go_wp2_with (first
              | (go_at_call 37; go_must ((with_reducible refine (Cmp_any (S.out.cnum 1 rfl) (S.out.cnum 0 rfl)).mono ?_); rintro e w10 ⟨rfl, hb⟩; rw [HXYZ.out]; replace S := Sealed.mk (S.out.adv hb); clear hb))
              | (go_at_call 15; go_must ((with_reducible refine (awake1_any _).mono ?_); rintro e w14 ⟨rfl, hb⟩; replace S := Sealed.mk (S.out.adv hb); clear hb)))
            go_ret
            exact ⟨rfl, S.out.below⟩

end Go.Proofs.Ytgchfbfgjanaiaa
