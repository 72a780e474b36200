/- sandreckonerlaw01.NumShifts: the walk -/
import Derived.Test.YtgchfbfgjanaiaaLwShiftsRx01
import Derived.Test.YtgchfbfgjanaiaaJ35
import Derived.Test.YtgchfbfgjanaiaaK01
import Derived.Deep.CutRange
set_option linter.unusedSimpArgs false
set_option linter.unusedVariables false
namespace Go.Proofs.Ytgchfbfgjanaiaa
open Go.RowKit Sr

set_option maxRecDepth 100000 in
set_option maxHeartbeats 4000000 in
theorem lawShifts_any {w : World} {v : Value} {ops : List (Int × Int × Int × Int)} (h : OpsAt w v ops) (a0 a1 a2 : Int) : Calls Try.prog 9 #[v, .agg #[.int .i64 a0, .int .i64 a1, .int .i64 a2]] w fun e w' => e = .returned (.bool true) ∧ Below w.heap.size w w' := by
  obtain ⟨W1, hW1⟩ : ∃ W1, W1 = w.alloc (.cells #[.int .i64 a0, .int .i64 a1, .int .i64 a2] 75) := ⟨_, rfl⟩
  have b1 : Below w.heap.size w W1 := by rw [hW1]; exact below_new _ _
  have z1 : W1.heap[w.heap.size]? = some (.cells #[.int .i64 a0, .int .i64 a1, .int .i64 a2] 75 (0, 0)) := by rw [hW1]; exact blk_alloc _ _
  have hmd := lawMade_any (h.below b1)
  have HM := Sealed.mk hmd; clear hmd h
  have H1 := Sealed.mk (And.intro b1 z1); clear b1 z1
  go_enter Try.func9, Try.ntmps9
  go_upto_region 1 with fail
  rw [← hW1]
  clear hW1
  go_upto_region 2 with (go_at_call 40; go_must (refine HM.out.mono ?_; rintro e W2 ⟨av, cv, zs, ps, rfl, hns, hml, hb2⟩; have H2 := Sealed.mk (And.intro hns (And.intro hml hb2)); clear hns hml hb2))
  clear HM
  obtain ⟨x, y, z, px, py, pz, bb, oo, m, i, j, k, rfl, hm, hmc, hi, hj, hk, hr1, hr2, hr3, hC, S2, nx, ny, nz, hx, hy, hz⟩ := pick_three H1.out.1 H1.out.2 H2.out.1 H2.out.2.1 H2.out.2.2 a0 a1 a2
  rw [← hm]
  have HR := Sealed.mk (And.intro hr1 (And.intro hr2 hr3)); clear hr1 hr2 hr3
  have HC := Sealed.mk hC; clear hC
  have HZ := Sealed.mk (And.intro hx (And.intro hy hz)); clear hx hy hz
  replace H2 := Sealed.mk (And.intro S2 (And.intro nx (And.intro ny nz))); clear S2 nx ny nz hm H1
  go_cut [6, 7, 8] from 37 to 60 (fun v6 v7 v8 wx => ∃ k6 k7 k8, v6 = .pointer (some ⟨k6, 0, none⟩) ∧ v7 = .pointer (some ⟨k7, 0, none⟩) ∧ v8 = .pointer (some ⟨k8, 0, none⟩) ∧ St w wx [] [(k6, px, x), (k7, py, y), (k8, pz, z)])
  case first =>
    refine wp_region_noPanic ?_
    refine wp_region_held_drew (S := fun W => W.cell? ⟨w.heap.size, 0, none⟩ = some (.int .i64 a0) ∧ W.cell? ⟨w.heap.size, 1, none⟩ = some (.int .i64 a1) ∧ W.cell? ⟨w.heap.size, 2, none⟩ = some (.int .i64 a2) ∧ W.cell? ⟨bb, oo + i, none⟩ = some (.pointer px) ∧ W.cell? ⟨bb, oo + j, none⟩ = some (.pointer py) ∧ W.cell? ⟨bb, oo + k, none⟩ = some (.pointer pz)) (by kernel_rfl) ?_ (fun hHeld => ?_)
    · exact HC.out _ (below_drew _)
    refine wpAnyH_take (i := 0) (v := ?_) rfl (by kernel_rfl) (by kernel_rfl) (by kernel_rfl) (fun _ _ _ h => h) (Or.inl ⟨by rfl, ?_⟩) (by assumption) ?_
    rotate_left
    · intro w hSw; (try dsimp only at hSw); go_simp; first | done | with_reducible rfl
    simp only [Act.put, List.getElem_toArray, List.getElem_cons_zero, List.getElem_cons_succ, List.setIfInBounds_toArray, List.set_cons_zero, List.set_cons_succ]
    refine wpAnyH_take (i := 1) (v := ?_) rfl (by kernel_rfl) (by kernel_rfl) (by kernel_rfl) (fun _ _ _ h => h) (Or.inl ⟨by rfl, ?_⟩) (by assumption) ?_
    rotate_left
    · intro w hSw; (try dsimp only at hSw); go_simp; first | done | with_reducible rfl
    simp only [Act.put, List.getElem_toArray, List.getElem_cons_zero, List.getElem_cons_succ, List.setIfInBounds_toArray, List.set_cons_zero, List.set_cons_succ]
    refine wpAnyH_take (i := 2) (v := ?_) rfl (by kernel_rfl) (by kernel_rfl) (by kernel_rfl) (fun _ _ _ h => h) (Or.inl ⟨by rfl, ?_⟩) (by assumption) ?_
    rotate_left
    · intro w hSw; (try dsimp only at hSw); go_simp; first | done | with_reducible rfl
    simp only [Act.put, List.getElem_toArray, List.getElem_cons_zero, List.getElem_cons_succ, List.setIfInBounds_toArray, List.set_cons_zero, List.set_cons_succ]
    refine wpAnyH_take (i := 3) (v := ?_) rfl (by kernel_rfl) (by kernel_rfl) (by kernel_rfl) (fun _ _ _ h => h) (Or.inl ⟨by rfl, ?_⟩) (by assumption) ?_
    rotate_left
    · intro w hSw; (try dsimp only at hSw); go_simp; first | done | with_reducible rfl
    simp only [Act.put, List.getElem_toArray, List.getElem_cons_zero, List.getElem_cons_succ, List.setIfInBounds_toArray, List.set_cons_zero, List.set_cons_succ]
    refine wpAnyH_take (i := 4) (v := ?_) rfl (by kernel_rfl) (by kernel_rfl) (by kernel_rfl) (fun _ _ _ h => h) (Or.inl ⟨by rfl, ?_⟩) (by assumption) ?_
    rotate_left
    · intro w hSw; (try dsimp only at hSw); go_simp; first | done | with_reducible rfl
    simp only [Act.put, List.getElem_toArray, List.getElem_cons_zero, List.getElem_cons_succ, List.setIfInBounds_toArray, List.set_cons_zero, List.set_cons_succ]
    refine wpAnyH_call (i := 5) (v := .int .i64 (i : Int)) rfl (by kernel_rfl) (by kernel_rfl) (by kernel_rfl) (fun _ _ _ h => h) ⟨by rfl, ?_⟩ (by assumption) ?_
    · intro w hSw; refine ⟨_, _, by go_simp; exact ⟨rfl, rfl⟩, ?_⟩; exact HR.out.1 _
    simp only [Act.put, List.getElem_toArray, List.getElem_cons_zero, List.getElem_cons_succ, List.setIfInBounds_toArray, List.set_cons_zero, List.set_cons_succ]
    refine wpAnyH_take (i := 6) (v := ?_) rfl (by kernel_rfl) (by kernel_rfl) (by kernel_rfl) (fun _ _ _ h => h) (Or.inl ⟨by rfl, ?_⟩) (by assumption) ?_
    rotate_left
    · intro w hSw; (try dsimp only at hSw); go_simp; first | done | with_reducible rfl
    simp only [Act.put, List.getElem_toArray, List.getElem_cons_zero, List.getElem_cons_succ, List.setIfInBounds_toArray, List.set_cons_zero, List.set_cons_succ]
    refine wpAnyH_take (i := 7) (v := ?_) rfl (by kernel_rfl) (by kernel_rfl) (by kernel_rfl) (fun _ _ _ h => h) (Or.inl ⟨by rfl, ?_⟩) (by assumption) ?_
    rotate_left
    · intro w hSw; (try dsimp only at hSw); go_simp; first | done | with_reducible rfl
    simp only [Act.put, List.getElem_toArray, List.getElem_cons_zero, List.getElem_cons_succ, List.setIfInBounds_toArray, List.set_cons_zero, List.set_cons_succ]
    refine wpAnyH_take (i := 8) (v := ?_) rfl (by kernel_rfl) (by kernel_rfl) (by kernel_rfl) (fun _ _ _ h => h) (Or.inl ⟨by rfl, ?_⟩) (by assumption) ?_
    rotate_left
    · intro w hSw; (try dsimp only at hSw); go_simp; first | done | with_reducible rfl
    simp only [Act.put, List.getElem_toArray, List.getElem_cons_zero, List.getElem_cons_succ, List.setIfInBounds_toArray, List.set_cons_zero, List.set_cons_succ]
    refine wpAnyH_take (i := 9) (v := ?_) rfl (by kernel_rfl) (by kernel_rfl) (by kernel_rfl) (fun _ _ _ h => h) (Or.inl ⟨by rfl, ?_⟩) (by assumption) ?_
    rotate_left
    · intro w hSw; (try dsimp only at hSw); go_simp; first | done | with_reducible rfl
    simp only [Act.put, List.getElem_toArray, List.getElem_cons_zero, List.getElem_cons_succ, List.setIfInBounds_toArray, List.set_cons_zero, List.set_cons_succ]
    refine wpAnyH_take (i := 10) (v := ?_) rfl (by kernel_rfl) (by kernel_rfl) (by kernel_rfl) (fun _ _ _ h => h) (Or.inl ⟨by rfl, ?_⟩) (by assumption) ?_
    rotate_left
    · intro w hSw; (try dsimp only at hSw); go_simp; first | done | with_reducible rfl
    simp only [Act.put, List.getElem_toArray, List.getElem_cons_zero, List.getElem_cons_succ, List.setIfInBounds_toArray, List.set_cons_zero, List.set_cons_succ]
    refine wpAnyH_take (i := 11) (v := ?_) rfl (by kernel_rfl) (by kernel_rfl) (by kernel_rfl) (fun _ _ _ h => h) (Or.inl ⟨by rfl, ?_⟩) (by assumption) ?_
    rotate_left
    · intro w hSw; (try dsimp only at hSw); go_simp; first | done | with_reducible rfl
    simp only [Act.put, List.getElem_toArray, List.getElem_cons_zero, List.getElem_cons_succ, List.setIfInBounds_toArray, List.set_cons_zero, List.set_cons_succ]
    refine wpAnyH_take (i := 12) (v := ?_) rfl (by kernel_rfl) (by kernel_rfl) (by kernel_rfl) (fun _ _ _ h => h) (Or.inl ⟨by rfl, ?_⟩) (by assumption) ?_
    rotate_left
    · intro w hSw; (try dsimp only at hSw); go_simp; first | done | with_reducible rfl
    simp only [Act.put, List.getElem_toArray, List.getElem_cons_zero, List.getElem_cons_succ, List.setIfInBounds_toArray, List.set_cons_zero, List.set_cons_succ]
    refine wpAnyH_call (i := 13) (v := .int .i64 (j : Int)) rfl (by kernel_rfl) (by kernel_rfl) (by kernel_rfl) (fun _ _ _ h => h) ⟨by rfl, ?_⟩ (by assumption) ?_
    · intro w hSw; refine ⟨_, _, by go_simp; exact ⟨rfl, rfl⟩, ?_⟩; exact HR.out.2.1 _
    simp only [Act.put, List.getElem_toArray, List.getElem_cons_zero, List.getElem_cons_succ, List.setIfInBounds_toArray, List.set_cons_zero, List.set_cons_succ]
    refine wpAnyH_take (i := 14) (v := ?_) rfl (by kernel_rfl) (by kernel_rfl) (by kernel_rfl) (fun _ _ _ h => h) (Or.inl ⟨by rfl, ?_⟩) (by assumption) ?_
    rotate_left
    · intro w hSw; (try dsimp only at hSw); go_simp; first | done | with_reducible rfl
    simp only [Act.put, List.getElem_toArray, List.getElem_cons_zero, List.getElem_cons_succ, List.setIfInBounds_toArray, List.set_cons_zero, List.set_cons_succ]
    refine wpAnyH_take (i := 15) (v := ?_) rfl (by kernel_rfl) (by kernel_rfl) (by kernel_rfl) (fun _ _ _ h => h) (Or.inl ⟨by rfl, ?_⟩) (by assumption) ?_
    rotate_left
    · intro w hSw; (try dsimp only at hSw); go_simp; first | done | with_reducible rfl
    simp only [Act.put, List.getElem_toArray, List.getElem_cons_zero, List.getElem_cons_succ, List.setIfInBounds_toArray, List.set_cons_zero, List.set_cons_succ]
    refine wpAnyH_take (i := 16) (v := ?_) rfl (by kernel_rfl) (by kernel_rfl) (by kernel_rfl) (fun _ _ _ h => h) (Or.inl ⟨by rfl, ?_⟩) (by assumption) ?_
    rotate_left
    · intro w hSw; (try dsimp only at hSw); go_simp; first | done | with_reducible rfl
    simp only [Act.put, List.getElem_toArray, List.getElem_cons_zero, List.getElem_cons_succ, List.setIfInBounds_toArray, List.set_cons_zero, List.set_cons_succ]
    refine wpAnyH_take (i := 17) (v := ?_) rfl (by kernel_rfl) (by kernel_rfl) (by kernel_rfl) (fun _ _ _ h => h) (Or.inl ⟨by rfl, ?_⟩) (by assumption) ?_
    rotate_left
    · intro w hSw; (try dsimp only at hSw); go_simp; first | done | with_reducible rfl
    simp only [Act.put, List.getElem_toArray, List.getElem_cons_zero, List.getElem_cons_succ, List.setIfInBounds_toArray, List.set_cons_zero, List.set_cons_succ]
    refine wpAnyH_take (i := 18) (v := ?_) rfl (by kernel_rfl) (by kernel_rfl) (by kernel_rfl) (fun _ _ _ h => h) (Or.inl ⟨by rfl, ?_⟩) (by assumption) ?_
    rotate_left
    · intro w hSw; (try dsimp only at hSw); go_simp; first | done | with_reducible rfl
    simp only [Act.put, List.getElem_toArray, List.getElem_cons_zero, List.getElem_cons_succ, List.setIfInBounds_toArray, List.set_cons_zero, List.set_cons_succ]
    refine wpAnyH_take (i := 19) (v := ?_) rfl (by kernel_rfl) (by kernel_rfl) (by kernel_rfl) (fun _ _ _ h => h) (Or.inl ⟨by rfl, ?_⟩) (by assumption) ?_
    rotate_left
    · intro w hSw; (try dsimp only at hSw); go_simp; first | done | with_reducible rfl
    simp only [Act.put, List.getElem_toArray, List.getElem_cons_zero, List.getElem_cons_succ, List.setIfInBounds_toArray, List.set_cons_zero, List.set_cons_succ]
    refine wpAnyH_take (i := 20) (v := ?_) rfl (by kernel_rfl) (by kernel_rfl) (by kernel_rfl) (fun _ _ _ h => h) (Or.inl ⟨by rfl, ?_⟩) (by assumption) ?_
    rotate_left
    · intro w hSw; (try dsimp only at hSw); go_simp; first | done | with_reducible rfl
    simp only [Act.put, List.getElem_toArray, List.getElem_cons_zero, List.getElem_cons_succ, List.setIfInBounds_toArray, List.set_cons_zero, List.set_cons_succ]
    refine wpAnyH_call (i := 21) (v := .int .i64 (k : Int)) rfl (by kernel_rfl) (by kernel_rfl) (by kernel_rfl) (fun _ _ _ h => h) ⟨by rfl, ?_⟩ (by assumption) ?_
    · intro w hSw; refine ⟨_, _, by go_simp; exact ⟨rfl, rfl⟩, ?_⟩; exact HR.out.2.2 _
    simp only [Act.put, List.getElem_toArray, List.getElem_cons_zero, List.getElem_cons_succ, List.setIfInBounds_toArray, List.set_cons_zero, List.set_cons_succ]
    refine wpAnyH_take (i := 22) (v := ?_) rfl (by kernel_rfl) (by kernel_rfl) (by kernel_rfl) (fun _ _ _ h => h) (Or.inl ⟨by rfl, ?_⟩) (by assumption) ?_
    rotate_left
    · intro w hSw; (try dsimp only at hSw); go_simp; first | done | with_reducible rfl
    simp only [Act.put, List.getElem_toArray, List.getElem_cons_zero, List.getElem_cons_succ, List.setIfInBounds_toArray, List.set_cons_zero, List.set_cons_succ]
    refine wpAnyH_take (i := 23) (v := ?_) rfl (by kernel_rfl) (by kernel_rfl) (by kernel_rfl) (fun _ _ _ h => h) (Or.inl ⟨by rfl, ?_⟩) (by assumption) ?_
    rotate_left
    · intro w hSw; (try dsimp only at hSw); go_simp; first | done | with_reducible rfl
    simp only [Act.put, List.getElem_toArray, List.getElem_cons_zero, List.getElem_cons_succ, List.setIfInBounds_toArray, List.set_cons_zero, List.set_cons_succ]
    refine wpAnyH_ready (rs := [24, 25, 26]) (by kernel_rfl) (by simp) ?_
    refine AllReadyH.cons rfl (fun K hK => ?_) (AllReadyH.cons rfl (fun K hK => ?_) (AllReadyH.cons rfl (fun K hK => ?_) (AllReadyH.nil)))
    · go_simp
      refine hK.out _ _ ?_ (fun hHeld => ?_)
      · exact HC.out _ (by repeat (first | exact Below.refl _ _ | refine below_dr ?_ | refine below_al ?_ | refine below_se ?_ (by omega)))
      clear hK K
      try simp only [Act.put, List.getElem_toArray, List.getElem_cons_zero, List.getElem_cons_succ, List.setIfInBounds_toArray, List.set_cons_zero, List.set_cons_succ]
      refine wpAnyH_ready (rs := [25, 26]) (by kernel_rfl) (by simp) ?_
      refine AllReadyH.cons rfl (fun K hK => ?_) (AllReadyH.cons rfl (fun K hK => ?_) (AllReadyH.nil))
      · go_simp
        refine hK.out _ _ ?_ (fun hHeld => ?_)
        · exact HC.out _ (by repeat (first | exact Below.refl _ _ | refine below_dr ?_ | refine below_al ?_ | refine below_se ?_ (by omega)))
        clear hK K
        try simp only [Act.put, List.getElem_toArray, List.getElem_cons_zero, List.getElem_cons_succ, List.setIfInBounds_toArray, List.set_cons_zero, List.set_cons_succ]
        refine wpAnyH_ready (rs := [26]) (by kernel_rfl) (by simp) ?_
        refine AllReadyH.cons rfl (fun K hK => ?_) (AllReadyH.nil)
        go_simp
        refine hK.out _ _ ?_ (fun hHeld => ?_)
        · exact HC.out _ (by repeat (first | exact Below.refl _ _ | refine below_dr ?_ | refine below_al ?_ | refine below_se ?_ (by omega)))
        clear hK K
        try simp only [Act.put, List.getElem_toArray, List.getElem_cons_zero, List.getElem_cons_succ, List.setIfInBounds_toArray, List.set_cons_zero, List.set_cons_succ]
        refine wpAnyH_ready (rs := [27]) (by kernel_rfl) (by simp) ?_
        refine AllReadyH.cons rfl (fun K hK => ?_) (AllReadyH.nil)
        go_simp
        refine hK.out _ _ ?_ (fun hHeld => ?_)
        · exact HC.out _ (by repeat (first | exact Below.refl _ _ | refine below_dr ?_ | refine below_al ?_ | refine below_se ?_ (by omega)))
        clear hK K
        try simp only [Act.put, List.getElem_toArray, List.getElem_cons_zero, List.getElem_cons_succ, List.setIfInBounds_toArray, List.set_cons_zero, List.set_cons_succ]
        refine wpAnyH_ready (rs := [28]) (by kernel_rfl) (by simp) ?_
        refine AllReadyH.cons rfl (fun K hK => ?_) (AllReadyH.nil)
        go_simp
        refine hK.out _ _ ?_ (fun hHeld => ?_)
        · exact HC.out _ (by repeat (first | exact Below.refl _ _ | refine below_dr ?_ | refine below_al ?_ | refine below_se ?_ (by omega)))
        clear hK K
        try simp only [Act.put, List.getElem_toArray, List.getElem_cons_zero, List.getElem_cons_succ, List.setIfInBounds_toArray, List.set_cons_zero, List.set_cons_succ]
        refine wpAnyH_ready (rs := [29]) (by kernel_rfl) (by simp) ?_
        refine AllReadyH.cons rfl (fun K hK => ?_) (AllReadyH.nil)
        go_simp
        refine hK.out _ _ ?_ (fun hHeld => ?_)
        · exact HC.out _ (by repeat (first | exact Below.refl _ _ | refine below_dr ?_ | refine below_al ?_ | refine below_se ?_ (by omega)))
        clear hK K
        try simp only [Act.put, List.getElem_toArray, List.getElem_cons_zero, List.getElem_cons_succ, List.setIfInBounds_toArray, List.set_cons_zero, List.set_cons_succ]
        refine wpAnyH_done (by kernel_rfl) ?_ _
        refine NoPanic.normal ?_
        go_wp2_with fail
        go_meet
        case rel =>
          first
            | exact ⟨_, _, _, rfl, rfl, rfl, (H2.out.1.new3 H2.out.2.1 H2.out.2.2.1 H2.out.2.2.2).dr.sub (by simp) (by simp <;> omega)⟩
            | exact ⟨_, _, _, rfl, rfl, rfl, (H2.out.1.new3 H2.out.2.1 H2.out.2.2.2 H2.out.2.2.1).dr.sub (by simp) (by simp <;> omega)⟩
            | exact ⟨_, _, _, rfl, rfl, rfl, (H2.out.1.new3 H2.out.2.2.1 H2.out.2.1 H2.out.2.2.2).dr.sub (by simp) (by simp <;> omega)⟩
            | exact ⟨_, _, _, rfl, rfl, rfl, (H2.out.1.new3 H2.out.2.2.1 H2.out.2.2.2 H2.out.2.1).dr.sub (by simp) (by simp <;> omega)⟩
            | exact ⟨_, _, _, rfl, rfl, rfl, (H2.out.1.new3 H2.out.2.2.2 H2.out.2.1 H2.out.2.2.1).dr.sub (by simp) (by simp <;> omega)⟩
            | exact ⟨_, _, _, rfl, rfl, rfl, (H2.out.1.new3 H2.out.2.2.2 H2.out.2.2.1 H2.out.2.1).dr.sub (by simp) (by simp <;> omega)⟩
      · go_simp
        refine hK.out _ _ ?_ (fun hHeld => ?_)
        · exact HC.out _ (by repeat (first | exact Below.refl _ _ | refine below_dr ?_ | refine below_al ?_ | refine below_se ?_ (by omega)))
        clear hK K
        try simp only [Act.put, List.getElem_toArray, List.getElem_cons_zero, List.getElem_cons_succ, List.setIfInBounds_toArray, List.set_cons_zero, List.set_cons_succ]
        refine wpAnyH_ready (rs := [25]) (by kernel_rfl) (by simp) ?_
        refine AllReadyH.cons rfl (fun K hK => ?_) (AllReadyH.nil)
        go_simp
        refine hK.out _ _ ?_ (fun hHeld => ?_)
        · exact HC.out _ (by repeat (first | exact Below.refl _ _ | refine below_dr ?_ | refine below_al ?_ | refine below_se ?_ (by omega)))
        clear hK K
        try simp only [Act.put, List.getElem_toArray, List.getElem_cons_zero, List.getElem_cons_succ, List.setIfInBounds_toArray, List.set_cons_zero, List.set_cons_succ]
        refine wpAnyH_ready (rs := [27]) (by kernel_rfl) (by simp) ?_
        refine AllReadyH.cons rfl (fun K hK => ?_) (AllReadyH.nil)
        go_simp
        refine hK.out _ _ ?_ (fun hHeld => ?_)
        · exact HC.out _ (by repeat (first | exact Below.refl _ _ | refine below_dr ?_ | refine below_al ?_ | refine below_se ?_ (by omega)))
        clear hK K
        try simp only [Act.put, List.getElem_toArray, List.getElem_cons_zero, List.getElem_cons_succ, List.setIfInBounds_toArray, List.set_cons_zero, List.set_cons_succ]
        refine wpAnyH_ready (rs := [28]) (by kernel_rfl) (by simp) ?_
        refine AllReadyH.cons rfl (fun K hK => ?_) (AllReadyH.nil)
        go_simp
        refine hK.out _ _ ?_ (fun hHeld => ?_)
        · exact HC.out _ (by repeat (first | exact Below.refl _ _ | refine below_dr ?_ | refine below_al ?_ | refine below_se ?_ (by omega)))
        clear hK K
        try simp only [Act.put, List.getElem_toArray, List.getElem_cons_zero, List.getElem_cons_succ, List.setIfInBounds_toArray, List.set_cons_zero, List.set_cons_succ]
        refine wpAnyH_ready (rs := [29]) (by kernel_rfl) (by simp) ?_
        refine AllReadyH.cons rfl (fun K hK => ?_) (AllReadyH.nil)
        go_simp
        refine hK.out _ _ ?_ (fun hHeld => ?_)
        · exact HC.out _ (by repeat (first | exact Below.refl _ _ | refine below_dr ?_ | refine below_al ?_ | refine below_se ?_ (by omega)))
        clear hK K
        try simp only [Act.put, List.getElem_toArray, List.getElem_cons_zero, List.getElem_cons_succ, List.setIfInBounds_toArray, List.set_cons_zero, List.set_cons_succ]
        refine wpAnyH_done (by kernel_rfl) ?_ _
        refine NoPanic.normal ?_
        go_wp2_with fail
        go_meet
        case rel =>
          first
            | exact ⟨_, _, _, rfl, rfl, rfl, (H2.out.1.new3 H2.out.2.1 H2.out.2.2.1 H2.out.2.2.2).dr.sub (by simp) (by simp <;> omega)⟩
            | exact ⟨_, _, _, rfl, rfl, rfl, (H2.out.1.new3 H2.out.2.1 H2.out.2.2.2 H2.out.2.2.1).dr.sub (by simp) (by simp <;> omega)⟩
            | exact ⟨_, _, _, rfl, rfl, rfl, (H2.out.1.new3 H2.out.2.2.1 H2.out.2.1 H2.out.2.2.2).dr.sub (by simp) (by simp <;> omega)⟩
            | exact ⟨_, _, _, rfl, rfl, rfl, (H2.out.1.new3 H2.out.2.2.1 H2.out.2.2.2 H2.out.2.1).dr.sub (by simp) (by simp <;> omega)⟩
            | exact ⟨_, _, _, rfl, rfl, rfl, (H2.out.1.new3 H2.out.2.2.2 H2.out.2.1 H2.out.2.2.1).dr.sub (by simp) (by simp <;> omega)⟩
            | exact ⟨_, _, _, rfl, rfl, rfl, (H2.out.1.new3 H2.out.2.2.2 H2.out.2.2.1 H2.out.2.1).dr.sub (by simp) (by simp <;> omega)⟩
    · go_simp
      refine hK.out _ _ ?_ (fun hHeld => ?_)
      · exact HC.out _ (by repeat (first | exact Below.refl _ _ | refine below_dr ?_ | refine below_al ?_ | refine below_se ?_ (by omega)))
      clear hK K
      try simp only [Act.put, List.getElem_toArray, List.getElem_cons_zero, List.getElem_cons_succ, List.setIfInBounds_toArray, List.set_cons_zero, List.set_cons_succ]
      refine wpAnyH_ready (rs := [24, 26]) (by kernel_rfl) (by simp) ?_
      refine AllReadyH.cons rfl (fun K hK => ?_) (AllReadyH.cons rfl (fun K hK => ?_) (AllReadyH.nil))
      · go_simp
        refine hK.out _ _ ?_ (fun hHeld => ?_)
        · exact HC.out _ (by repeat (first | exact Below.refl _ _ | refine below_dr ?_ | refine below_al ?_ | refine below_se ?_ (by omega)))
        clear hK K
        try simp only [Act.put, List.getElem_toArray, List.getElem_cons_zero, List.getElem_cons_succ, List.setIfInBounds_toArray, List.set_cons_zero, List.set_cons_succ]
        refine wpAnyH_ready (rs := [26]) (by kernel_rfl) (by simp) ?_
        refine AllReadyH.cons rfl (fun K hK => ?_) (AllReadyH.nil)
        go_simp
        refine hK.out _ _ ?_ (fun hHeld => ?_)
        · exact HC.out _ (by repeat (first | exact Below.refl _ _ | refine below_dr ?_ | refine below_al ?_ | refine below_se ?_ (by omega)))
        clear hK K
        try simp only [Act.put, List.getElem_toArray, List.getElem_cons_zero, List.getElem_cons_succ, List.setIfInBounds_toArray, List.set_cons_zero, List.set_cons_succ]
        refine wpAnyH_ready (rs := [27]) (by kernel_rfl) (by simp) ?_
        refine AllReadyH.cons rfl (fun K hK => ?_) (AllReadyH.nil)
        go_simp
        refine hK.out _ _ ?_ (fun hHeld => ?_)
        · exact HC.out _ (by repeat (first | exact Below.refl _ _ | refine below_dr ?_ | refine below_al ?_ | refine below_se ?_ (by omega)))
        clear hK K
        try simp only [Act.put, List.getElem_toArray, List.getElem_cons_zero, List.getElem_cons_succ, List.setIfInBounds_toArray, List.set_cons_zero, List.set_cons_succ]
        refine wpAnyH_ready (rs := [28]) (by kernel_rfl) (by simp) ?_
        refine AllReadyH.cons rfl (fun K hK => ?_) (AllReadyH.nil)
        go_simp
        refine hK.out _ _ ?_ (fun hHeld => ?_)
        · exact HC.out _ (by repeat (first | exact Below.refl _ _ | refine below_dr ?_ | refine below_al ?_ | refine below_se ?_ (by omega)))
        clear hK K
        try simp only [Act.put, List.getElem_toArray, List.getElem_cons_zero, List.getElem_cons_succ, List.setIfInBounds_toArray, List.set_cons_zero, List.set_cons_succ]
        refine wpAnyH_ready (rs := [29]) (by kernel_rfl) (by simp) ?_
        refine AllReadyH.cons rfl (fun K hK => ?_) (AllReadyH.nil)
        go_simp
        refine hK.out _ _ ?_ (fun hHeld => ?_)
        · exact HC.out _ (by repeat (first | exact Below.refl _ _ | refine below_dr ?_ | refine below_al ?_ | refine below_se ?_ (by omega)))
        clear hK K
        try simp only [Act.put, List.getElem_toArray, List.getElem_cons_zero, List.getElem_cons_succ, List.setIfInBounds_toArray, List.set_cons_zero, List.set_cons_succ]
        refine wpAnyH_done (by kernel_rfl) ?_ _
        refine NoPanic.normal ?_
        go_wp2_with fail
        go_meet
        case rel =>
          first
            | exact ⟨_, _, _, rfl, rfl, rfl, (H2.out.1.new3 H2.out.2.1 H2.out.2.2.1 H2.out.2.2.2).dr.sub (by simp) (by simp <;> omega)⟩
            | exact ⟨_, _, _, rfl, rfl, rfl, (H2.out.1.new3 H2.out.2.1 H2.out.2.2.2 H2.out.2.2.1).dr.sub (by simp) (by simp <;> omega)⟩
            | exact ⟨_, _, _, rfl, rfl, rfl, (H2.out.1.new3 H2.out.2.2.1 H2.out.2.1 H2.out.2.2.2).dr.sub (by simp) (by simp <;> omega)⟩
            | exact ⟨_, _, _, rfl, rfl, rfl, (H2.out.1.new3 H2.out.2.2.1 H2.out.2.2.2 H2.out.2.1).dr.sub (by simp) (by simp <;> omega)⟩
            | exact ⟨_, _, _, rfl, rfl, rfl, (H2.out.1.new3 H2.out.2.2.2 H2.out.2.1 H2.out.2.2.1).dr.sub (by simp) (by simp <;> omega)⟩
            | exact ⟨_, _, _, rfl, rfl, rfl, (H2.out.1.new3 H2.out.2.2.2 H2.out.2.2.1 H2.out.2.1).dr.sub (by simp) (by simp <;> omega)⟩
      · go_simp
        refine hK.out _ _ ?_ (fun hHeld => ?_)
        · exact HC.out _ (by repeat (first | exact Below.refl _ _ | refine below_dr ?_ | refine below_al ?_ | refine below_se ?_ (by omega)))
        clear hK K
        try simp only [Act.put, List.getElem_toArray, List.getElem_cons_zero, List.getElem_cons_succ, List.setIfInBounds_toArray, List.set_cons_zero, List.set_cons_succ]
        refine wpAnyH_ready (rs := [24]) (by kernel_rfl) (by simp) ?_
        refine AllReadyH.cons rfl (fun K hK => ?_) (AllReadyH.nil)
        go_simp
        refine hK.out _ _ ?_ (fun hHeld => ?_)
        · exact HC.out _ (by repeat (first | exact Below.refl _ _ | refine below_dr ?_ | refine below_al ?_ | refine below_se ?_ (by omega)))
        clear hK K
        try simp only [Act.put, List.getElem_toArray, List.getElem_cons_zero, List.getElem_cons_succ, List.setIfInBounds_toArray, List.set_cons_zero, List.set_cons_succ]
        refine wpAnyH_ready (rs := [27]) (by kernel_rfl) (by simp) ?_
        refine AllReadyH.cons rfl (fun K hK => ?_) (AllReadyH.nil)
        go_simp
        refine hK.out _ _ ?_ (fun hHeld => ?_)
        · exact HC.out _ (by repeat (first | exact Below.refl _ _ | refine below_dr ?_ | refine below_al ?_ | refine below_se ?_ (by omega)))
        clear hK K
        try simp only [Act.put, List.getElem_toArray, List.getElem_cons_zero, List.getElem_cons_succ, List.setIfInBounds_toArray, List.set_cons_zero, List.set_cons_succ]
        refine wpAnyH_ready (rs := [28]) (by kernel_rfl) (by simp) ?_
        refine AllReadyH.cons rfl (fun K hK => ?_) (AllReadyH.nil)
        go_simp
        refine hK.out _ _ ?_ (fun hHeld => ?_)
        · exact HC.out _ (by repeat (first | exact Below.refl _ _ | refine below_dr ?_ | refine below_al ?_ | refine below_se ?_ (by omega)))
        clear hK K
        try simp only [Act.put, List.getElem_toArray, List.getElem_cons_zero, List.getElem_cons_succ, List.setIfInBounds_toArray, List.set_cons_zero, List.set_cons_succ]
        refine wpAnyH_ready (rs := [29]) (by kernel_rfl) (by simp) ?_
        refine AllReadyH.cons rfl (fun K hK => ?_) (AllReadyH.nil)
        go_simp
        refine hK.out _ _ ?_ (fun hHeld => ?_)
        · exact HC.out _ (by repeat (first | exact Below.refl _ _ | refine below_dr ?_ | refine below_al ?_ | refine below_se ?_ (by omega)))
        clear hK K
        try simp only [Act.put, List.getElem_toArray, List.getElem_cons_zero, List.getElem_cons_succ, List.setIfInBounds_toArray, List.set_cons_zero, List.set_cons_succ]
        refine wpAnyH_done (by kernel_rfl) ?_ _
        refine NoPanic.normal ?_
        go_wp2_with fail
        go_meet
        case rel =>
          first
            | exact ⟨_, _, _, rfl, rfl, rfl, (H2.out.1.new3 H2.out.2.1 H2.out.2.2.1 H2.out.2.2.2).dr.sub (by simp) (by simp <;> omega)⟩
            | exact ⟨_, _, _, rfl, rfl, rfl, (H2.out.1.new3 H2.out.2.1 H2.out.2.2.2 H2.out.2.2.1).dr.sub (by simp) (by simp <;> omega)⟩
            | exact ⟨_, _, _, rfl, rfl, rfl, (H2.out.1.new3 H2.out.2.2.1 H2.out.2.1 H2.out.2.2.2).dr.sub (by simp) (by simp <;> omega)⟩
            | exact ⟨_, _, _, rfl, rfl, rfl, (H2.out.1.new3 H2.out.2.2.1 H2.out.2.2.2 H2.out.2.1).dr.sub (by simp) (by simp <;> omega)⟩
            | exact ⟨_, _, _, rfl, rfl, rfl, (H2.out.1.new3 H2.out.2.2.2 H2.out.2.1 H2.out.2.2.1).dr.sub (by simp) (by simp <;> omega)⟩
            | exact ⟨_, _, _, rfl, rfl, rfl, (H2.out.1.new3 H2.out.2.2.2 H2.out.2.2.1 H2.out.2.1).dr.sub (by simp) (by simp <;> omega)⟩
    · go_simp
      refine hK.out _ _ ?_ (fun hHeld => ?_)
      · exact HC.out _ (by repeat (first | exact Below.refl _ _ | refine below_dr ?_ | refine below_al ?_ | refine below_se ?_ (by omega)))
      clear hK K
      try simp only [Act.put, List.getElem_toArray, List.getElem_cons_zero, List.getElem_cons_succ, List.setIfInBounds_toArray, List.set_cons_zero, List.set_cons_succ]
      refine wpAnyH_ready (rs := [24, 25]) (by kernel_rfl) (by simp) ?_
      refine AllReadyH.cons rfl (fun K hK => ?_) (AllReadyH.cons rfl (fun K hK => ?_) (AllReadyH.nil))
      · go_simp
        refine hK.out _ _ ?_ (fun hHeld => ?_)
        · exact HC.out _ (by repeat (first | exact Below.refl _ _ | refine below_dr ?_ | refine below_al ?_ | refine below_se ?_ (by omega)))
        clear hK K
        try simp only [Act.put, List.getElem_toArray, List.getElem_cons_zero, List.getElem_cons_succ, List.setIfInBounds_toArray, List.set_cons_zero, List.set_cons_succ]
        refine wpAnyH_ready (rs := [25]) (by kernel_rfl) (by simp) ?_
        refine AllReadyH.cons rfl (fun K hK => ?_) (AllReadyH.nil)
        go_simp
        refine hK.out _ _ ?_ (fun hHeld => ?_)
        · exact HC.out _ (by repeat (first | exact Below.refl _ _ | refine below_dr ?_ | refine below_al ?_ | refine below_se ?_ (by omega)))
        clear hK K
        try simp only [Act.put, List.getElem_toArray, List.getElem_cons_zero, List.getElem_cons_succ, List.setIfInBounds_toArray, List.set_cons_zero, List.set_cons_succ]
        refine wpAnyH_ready (rs := [27]) (by kernel_rfl) (by simp) ?_
        refine AllReadyH.cons rfl (fun K hK => ?_) (AllReadyH.nil)
        go_simp
        refine hK.out _ _ ?_ (fun hHeld => ?_)
        · exact HC.out _ (by repeat (first | exact Below.refl _ _ | refine below_dr ?_ | refine below_al ?_ | refine below_se ?_ (by omega)))
        clear hK K
        try simp only [Act.put, List.getElem_toArray, List.getElem_cons_zero, List.getElem_cons_succ, List.setIfInBounds_toArray, List.set_cons_zero, List.set_cons_succ]
        refine wpAnyH_ready (rs := [28]) (by kernel_rfl) (by simp) ?_
        refine AllReadyH.cons rfl (fun K hK => ?_) (AllReadyH.nil)
        go_simp
        refine hK.out _ _ ?_ (fun hHeld => ?_)
        · exact HC.out _ (by repeat (first | exact Below.refl _ _ | refine below_dr ?_ | refine below_al ?_ | refine below_se ?_ (by omega)))
        clear hK K
        try simp only [Act.put, List.getElem_toArray, List.getElem_cons_zero, List.getElem_cons_succ, List.setIfInBounds_toArray, List.set_cons_zero, List.set_cons_succ]
        refine wpAnyH_ready (rs := [29]) (by kernel_rfl) (by simp) ?_
        refine AllReadyH.cons rfl (fun K hK => ?_) (AllReadyH.nil)
        go_simp
        refine hK.out _ _ ?_ (fun hHeld => ?_)
        · exact HC.out _ (by repeat (first | exact Below.refl _ _ | refine below_dr ?_ | refine below_al ?_ | refine below_se ?_ (by omega)))
        clear hK K
        try simp only [Act.put, List.getElem_toArray, List.getElem_cons_zero, List.getElem_cons_succ, List.setIfInBounds_toArray, List.set_cons_zero, List.set_cons_succ]
        refine wpAnyH_done (by kernel_rfl) ?_ _
        refine NoPanic.normal ?_
        go_wp2_with fail
        go_meet
        case rel =>
          first
            | exact ⟨_, _, _, rfl, rfl, rfl, (H2.out.1.new3 H2.out.2.1 H2.out.2.2.1 H2.out.2.2.2).dr.sub (by simp) (by simp <;> omega)⟩
            | exact ⟨_, _, _, rfl, rfl, rfl, (H2.out.1.new3 H2.out.2.1 H2.out.2.2.2 H2.out.2.2.1).dr.sub (by simp) (by simp <;> omega)⟩
            | exact ⟨_, _, _, rfl, rfl, rfl, (H2.out.1.new3 H2.out.2.2.1 H2.out.2.1 H2.out.2.2.2).dr.sub (by simp) (by simp <;> omega)⟩
            | exact ⟨_, _, _, rfl, rfl, rfl, (H2.out.1.new3 H2.out.2.2.1 H2.out.2.2.2 H2.out.2.1).dr.sub (by simp) (by simp <;> omega)⟩
            | exact ⟨_, _, _, rfl, rfl, rfl, (H2.out.1.new3 H2.out.2.2.2 H2.out.2.1 H2.out.2.2.1).dr.sub (by simp) (by simp <;> omega)⟩
            | exact ⟨_, _, _, rfl, rfl, rfl, (H2.out.1.new3 H2.out.2.2.2 H2.out.2.2.1 H2.out.2.1).dr.sub (by simp) (by simp <;> omega)⟩
      · go_simp
        refine hK.out _ _ ?_ (fun hHeld => ?_)
        · exact HC.out _ (by repeat (first | exact Below.refl _ _ | refine below_dr ?_ | refine below_al ?_ | refine below_se ?_ (by omega)))
        clear hK K
        try simp only [Act.put, List.getElem_toArray, List.getElem_cons_zero, List.getElem_cons_succ, List.setIfInBounds_toArray, List.set_cons_zero, List.set_cons_succ]
        refine wpAnyH_ready (rs := [24]) (by kernel_rfl) (by simp) ?_
        refine AllReadyH.cons rfl (fun K hK => ?_) (AllReadyH.nil)
        go_simp
        refine hK.out _ _ ?_ (fun hHeld => ?_)
        · exact HC.out _ (by repeat (first | exact Below.refl _ _ | refine below_dr ?_ | refine below_al ?_ | refine below_se ?_ (by omega)))
        clear hK K
        try simp only [Act.put, List.getElem_toArray, List.getElem_cons_zero, List.getElem_cons_succ, List.setIfInBounds_toArray, List.set_cons_zero, List.set_cons_succ]
        refine wpAnyH_ready (rs := [27]) (by kernel_rfl) (by simp) ?_
        refine AllReadyH.cons rfl (fun K hK => ?_) (AllReadyH.nil)
        go_simp
        refine hK.out _ _ ?_ (fun hHeld => ?_)
        · exact HC.out _ (by repeat (first | exact Below.refl _ _ | refine below_dr ?_ | refine below_al ?_ | refine below_se ?_ (by omega)))
        clear hK K
        try simp only [Act.put, List.getElem_toArray, List.getElem_cons_zero, List.getElem_cons_succ, List.setIfInBounds_toArray, List.set_cons_zero, List.set_cons_succ]
        refine wpAnyH_ready (rs := [28]) (by kernel_rfl) (by simp) ?_
        refine AllReadyH.cons rfl (fun K hK => ?_) (AllReadyH.nil)
        go_simp
        refine hK.out _ _ ?_ (fun hHeld => ?_)
        · exact HC.out _ (by repeat (first | exact Below.refl _ _ | refine below_dr ?_ | refine below_al ?_ | refine below_se ?_ (by omega)))
        clear hK K
        try simp only [Act.put, List.getElem_toArray, List.getElem_cons_zero, List.getElem_cons_succ, List.setIfInBounds_toArray, List.set_cons_zero, List.set_cons_succ]
        refine wpAnyH_ready (rs := [29]) (by kernel_rfl) (by simp) ?_
        refine AllReadyH.cons rfl (fun K hK => ?_) (AllReadyH.nil)
        go_simp
        refine hK.out _ _ ?_ (fun hHeld => ?_)
        · exact HC.out _ (by repeat (first | exact Below.refl _ _ | refine below_dr ?_ | refine below_al ?_ | refine below_se ?_ (by omega)))
        clear hK K
        try simp only [Act.put, List.getElem_toArray, List.getElem_cons_zero, List.getElem_cons_succ, List.setIfInBounds_toArray, List.set_cons_zero, List.set_cons_succ]
        refine wpAnyH_done (by kernel_rfl) ?_ _
        refine NoPanic.normal ?_
        go_wp2_with fail
        go_meet
        case rel =>
          first
            | exact ⟨_, _, _, rfl, rfl, rfl, (H2.out.1.new3 H2.out.2.1 H2.out.2.2.1 H2.out.2.2.2).dr.sub (by simp) (by simp <;> omega)⟩
            | exact ⟨_, _, _, rfl, rfl, rfl, (H2.out.1.new3 H2.out.2.1 H2.out.2.2.2 H2.out.2.2.1).dr.sub (by simp) (by simp <;> omega)⟩
            | exact ⟨_, _, _, rfl, rfl, rfl, (H2.out.1.new3 H2.out.2.2.1 H2.out.2.1 H2.out.2.2.2).dr.sub (by simp) (by simp <;> omega)⟩
            | exact ⟨_, _, _, rfl, rfl, rfl, (H2.out.1.new3 H2.out.2.2.1 H2.out.2.2.2 H2.out.2.1).dr.sub (by simp) (by simp <;> omega)⟩
            | exact ⟨_, _, _, rfl, rfl, rfl, (H2.out.1.new3 H2.out.2.2.2 H2.out.2.1 H2.out.2.2.1).dr.sub (by simp) (by simp <;> omega)⟩
            | exact ⟨_, _, _, rfl, rfl, rfl, (H2.out.1.new3 H2.out.2.2.2 H2.out.2.2.1 H2.out.2.1).dr.sub (by simp) (by simp <;> omega)⟩
  case rest =>
    obtain ⟨k6, k7, k8, rfl, rfl, rfl, hS⟩ := hcut
    obtain ⟨W3, hW3⟩ : ∃ W3, W3 = wc := ⟨_, rfl⟩
    rw [← hW3] at hS ⊢
    clear hW3 H2 HC HR
    have S := Sealed.mk hS; clear hS
    obtain ⟨vu, eu, gu, qu⟩ := shiftR_ways x y
    have GU := Sealed.mk gu
    have QU := Sealed.mk qu
    clear gu qu
    have hof1 := fun W => Of_one (n := 1) (by unfold Is64; decide) W
    have OF := Sealed.mk hof1; clear hof1
    have ld0 := S.out.cell 0 rfl
    have ld1 := S.out.cell 1 rfl
    go_upto_region 4 with (go_at_call 25; go_must ((with_reducible refine (Shift_two GU.out (S.out.cnum 0 rfl) (S.out.cnum 1 rfl)).mono ?_); rintro e w11 ⟨p11, rfl, hb, hn⟩; replace S := Sealed.mk (S.out.res hb hn); clear hb hn))
    clear ld0 ld1
    have S0 := (S.out.new (S.out.num 0 rfl)).clr
    obtain ⟨W12, hW12⟩ : ∃ W12, W12 = w11.alloc (.cells #[.pointer p11] 30) := ⟨_, rfl⟩
    rw [← hW12] at S0 ⊢
    replace S := Sealed.mk S0; clear S0 hW12
    obtain ⟨s, hs⟩ : ∃ s, s = sg y := ⟨_, rfl⟩
    have HSY := Sealed.mk hs; clear hs
    obtain ⟨b0, hb0⟩ : ∃ b : Bool, b = decide (0 ≤ s) := ⟨_, rfl⟩
    have B0 := Sealed.mk hb0; clear hb0
    go_cut [69] from 67 to 69 (fun v wx => v = .bool b0 ∧ Below W12.heap.size W12 wx)
    case first =>
      have HB := Sealed.mk (Below.refl W12.heap.size W12)
      have ld0 := S.out.cell 2 rfl
      go_wp2_with (first
        | (go_at_call 42; go_must (first
            | ((with_reducible refine (Sign_any (S.out.cnum 2 rfl)).mono ?_); rintro e w13 ⟨rfl, hb⟩; rw [← HSY.out]; replace S := Sealed.mk (S.out.adv hb); replace HB := Sealed.mk (below_chain HB.out hb); clear hb; have lx0 := S.out.cell 2 rfl))))
      all_goals
        go_meet
        case rel => exact ⟨by rw [B0.out], HB.out⟩
    case rest =>
      obtain ⟨rfl, hbc⟩ := hcut
      obtain ⟨W14, hW14⟩ : ∃ W14, W14 = wc := ⟨_, rfl⟩
      rw [← hW14] at hbc ⊢
      clear hW14
      replace S := Sealed.mk (S.out.adv hbc)
      clear hbc
      go_upto_if 69 with fail
      go_cut [69] from 70 to 125 (fun _ wx => St w wx [] [(w11.heap.size, p11, vu), (k6, px, x), (k7, py, y), (k8, pz, z)])
      case first =>
        cases b0 with
        | true =>
          obtain ⟨n, hn⟩ : ∃ n : Nat, y = (n : Int) := ⟨y.toNat, by have h0 := of_decide_eq_true B0.out.symm; rw [HSY.out] at h0; rcases sg_cases y with ⟨h1, h2⟩ | ⟨h1, h2⟩ | ⟨h1, h2⟩ <;> omega⟩
          obtain ⟨vp, ep, gp, qp⟩ := gv_two (2 ^ n)
          have GP : Sealed (shiftR 1 y = (vp, ep)) := ⟨by rw [hn, shiftR_nat, Int.mul_one]; exact gp⟩
          obtain ⟨vq, eq, gq, qq⟩ : ∃ vq eq, mulR x vp = (vq, eq) ∧ (ep = 0 → eq = eu ∧ vq = vu) := by
            rcases qp with ⟨rfl, rfl⟩ | ⟨rfl, rfl⟩
            · exact ⟨vu, eu, by rw [mulR_pow HZ.out.1.1, ← hn]; exact GU.out, fun _ => ⟨rfl, rfl⟩⟩
            · exact ⟨_, _, rfl, fun h => by omega⟩
          have GQ := Sealed.mk gq
          have QQ := Sealed.mk (And.intro qp qq)
          clear gp gq qp qq hn
          go_upto_region 5 with fail
          go_cut [11, 12] from 70 to 75 (fun vn ve wx => ∃ kn pn, vn = .pointer (some ⟨kn, 0, none⟩) ∧ ve = .int .i64 ep ∧ St w wx [] [(kn, pn, vp), (w11.heap.size, p11, vu), (k6, px, x), (k7, py, y), (k8, pz, z)])
          case first =>
            go_region_held3 (fun W => W.cell? ⟨k7, 0, none⟩ = some (.pointer py))
              (first
                | exact S.out.cell 2 rfl
                | exact S.out.dr.cell 2 rfl
                | exact S.out.cell 3 rfl
                | exact (S.out.new (NumIs.zero _)).dr.cell 3 rfl
                | exact (S.out.new (NumIs.zero _)).cell 3 rfl
                | exact (S.out.put 0 rfl (S.out.num 0 rfl)).cell 3 rfl
                | exact (S.out.new (S.out.num 0 rfl)).cell 3 rfl
                | fail)
              (first
                | (go_at_call 21; go_must ((with_reducible refine (OF.out _).mono ?_); rintro e w15 ⟨p15, rfl, hb, hn⟩; first | (replace S := Sealed.mk (S.out.dr.res hb hn)) | (replace S := Sealed.mk ((S.out.new (NumIs.zero _)).dr.res hb hn)); clear hb hn))
                | (go_at_call 25; go_must (first
                    | ((with_reducible refine (Shift_two GP.out (S.out.num 0 rfl) (S.out.cnum 2 rfl)).mono ?_); rintro e w15' ⟨p15', rfl, hb, hn⟩; replace S := Sealed.mk (S.out.res hb hn); clear hb hn)
                    | ((with_reducible refine (Shift_two GP.out (S.out.num 0 rfl) (S.out.cnum 3 rfl)).mono ?_); rintro e w15' ⟨p15', rfl, hb, hn⟩; replace S := Sealed.mk (S.out.res hb hn); have zc := S.out.cell 0 rfl; have zf := S.out.frozen 0 rfl; clear hb hn)
                    | ((with_reducible refine (Shift_two GP.out ((S.out.new (NumIs.zero _)).num 0 rfl) ((S.out.new (NumIs.zero _)).cnum 3 rfl)).mono ?_); rintro e w15' ⟨p15', rfl, hb, hn⟩; replace S := Sealed.mk ((S.out.new (NumIs.zero _)).res hb hn); have zc := S.out.cell 0 rfl; have zf := S.out.frozen 0 rfl; clear hb hn))))
            all_goals
              go_wp2_with fail
              go_meet
              case rel =>
                first
                  | exact ⟨_, _, rfl, rfl, (S.out.new (S.out.num 0 rfl)).clr⟩
                  | exact ⟨_, _, rfl, rfl, (S.out.put 0 rfl (S.out.num 0 rfl)).clr⟩
          case rest =>
            obtain ⟨kn15, pn15, rfl, rfl, hS⟩ := hcut
            obtain ⟨W15, hW15⟩ : ∃ W15, W15 = wc := ⟨_, rfl⟩
            rw [← hW15] at hS ⊢
            clear hW15
            replace S := Sealed.mk hS
            clear hS
            go_upto_region 6 with fail
            have ld0 := S.out.cell 2 rfl
            have ld1 := S.out.cell 0 rfl
            go_upto_region 7 with (go_at_call 34; go_must ((with_reducible refine (Mul_two GQ.out (S.out.cnum 2 rfl) (S.out.cnum 0 rfl)).mono ?_); rintro e w16 ⟨p16, rfl, hb, hn⟩; replace S := Sealed.mk (S.out.res hb hn); clear hb hn))
            clear ld0 ld1
            have S0 := (S.out.new (S.out.num 0 rfl)).clr
            obtain ⟨W17, hW17⟩ : ∃ W17, W17 = w16.alloc (.cells #[.pointer p16] 30) := ⟨_, rfl⟩
            rw [← hW17] at S0 ⊢
            replace S := Sealed.mk S0; clear S0 hW17
            obtain ⟨qp, qq⟩ := QQ.out
            clear GP GQ QQ GU QU
            rcases qp with ⟨rfl, rfl⟩ | ⟨rfl, rfl⟩
            · obtain ⟨rfl, rfl⟩ := qq rfl
              have ld0 := S.out.cell 2 rfl
              have ld1 := S.out.cell 0 rfl
              go_wp2_with (go_at_call 20; go_must (first
                | ((with_reducible refine (lawSame_any (S.out.cnum 2 rfl) (S.out.cnum 0 rfl)).mono ?_); rintro e w180 ⟨rfl, hb⟩; replace S := Sealed.mk (S.out.adv hb); clear hb; have lx0 := S.out.cell 2 rfl; have lx1 := S.out.cell 0 rfl)))
              go_meet
              case rel => exact S.out.clr.drop 2
            · clear qq
              go_wp2_with fail
              go_meet
              case rel => exact S.out.clr.drop 2
        | false =>
          obtain ⟨tn, htn⟩ : ∃ tn, tn = wl x := ⟨_, rfl⟩
          have HTN := Sealed.mk htn; clear htn
          go_upto_region 9 with fail
          have ld0 := S.out.cell 1 rfl
          go_upto_region 10 with (go_at_call 41; go_must ((with_reducible refine (Terms_any (S.out.cnum 1 rfl)).mono ?_); rintro e wT ⟨aT, cT, tsT, rfl, hto, hb⟩; rw [← HTN.out] at hto ⊢; replace S := Sealed.mk (S.out.adv hb); have HT := Sealed.mk hto; clear hto hb))
          clear ld0
          by_cases h0 : tn = 0
          · have hx0 : x = 0 := form_eq_nil.1 (List.eq_nil_of_length_eq_zero (by have := HTN.out; unfold wl at this; omega))
            have qu := QU.out
            subst h0
            clear QU GU HT
            rcases qu with ⟨rfl, -, -, -⟩ | ⟨rfl, -, -⟩ | ⟨-, hw, -⟩
            · go_wp2_with fail
              go_meet
              case rel => exact S.out
            · go_wp2_with fail
              go_meet
              case rel => exact S.out
            · exact absurd (by rw [hx0]; exact whole_zero y) hw
          · obtain ⟨j, hj⟩ : ∃ j : Nat, (j : Int) = (tn : Int) - 1 := ⟨tn - 1, by omega⟩
            have hjn : j = wl x - 1 := by have := HTN.out; omega
            obtain ⟨⟨mt, et⟩, het⟩ : ∃ t, (form x)[wl x - 1]? = some t := ⟨_, List.getElem?_eq_getElem (by have := HTN.out; unfold wl at *; omega)⟩
            have hz : (termsZ x)[j]? = some (mt, (et : Int)) := by rw [hjn]; unfold termsZ; rw [List.getElem?_map, het]; rfl
            obtain ⟨-, -, a', c', hv, hc, hh⟩ := HT.out.at_ (by rw [termsZ_length, ← HTN.out]; have := HZ.out.1.2.1; have := HTN.out; omega)
            obtain ⟨rfl, -, rfl⟩ := Value.slice.inj hv
            rw [termsZ_length, ← HTN.out] at hc
            obtain ⟨bT, oT, rfl, hcl⟩ := hh (by intro e; rw [e] at hz; simp at hz)
            obtain ⟨pe, -, hpe, hne⟩ := hcl j _ hz
            simp only at hpe hne
            have hwl := whole_last (y := y) het
            obtain ⟨vd, ed, gd, qd⟩ := gv_two ((et : Int) + y)
            have GD := Sealed.mk gd
            have QD := Sealed.mk (And.intro qd hwl)
            have hsub : IntKind.i64.wrap ((tn : Int) - 1) = (j : Int) := by rw [IntKind.wrap_i64, hj]; have := HZ.out.1.2.1; have := HTN.out; omega
            have hj0 : (0 : Int) ≤ (j : Int) := by omega
            have hj1 : (j : Int) < (tn : Int) := by omega
            have htn0 : (0 : Int) < (tn : Int) := by omega
            have HPE := Sealed.mk hpe
            have HBT := Sealed.mk (lt_of_cell hpe)
            replace S := Sealed.mk (S.out.push hne)
            clear hv hcl hz het hjn gd qd hwl hj hpe hne h0 HTN HT
            go_upto_region 12 with fail
            clear htn0
            have hcs : ∀ W, Below wT.heap.size wT W → W.cell? ⟨bT, oT + j * 2 + 1, none⟩ = some (.pointer pe) := fun W hb => (cell_same (hb.block _ HBT.out) _).trans HPE.out
            have HCS := Sealed.mk hcs; clear hcs
            have HB := Sealed.mk (Below.refl wT.heap.size wT)
            go_cut [17, 18, 99] from 100 to 111 (fun vn ve _ wx => ∃ kn pn, vn = .pointer (some ⟨kn, 0, none⟩) ∧ ve = .int .i64 ed ∧ St w wx [] [(kn, pn, vd), (w11.heap.size, p11, vu), (k6, px, x), (k7, py, y), (k8, pz, z)])
            case first =>
              go_region_held3 (fun W => W.cell? ⟨bT, oT + j * 2 + 1, none⟩ = some (.pointer pe) ∧ W.cell? ⟨k7, 0, none⟩ = some (.pointer py))
                (first
                  | exact ⟨HCS.out _ (below_dr HB.out), S.out.dr.cell 2 rfl⟩
                  | exact ⟨HCS.out _ HB.out, S.out.cell 2 rfl⟩
                  | exact ⟨HCS.out _ (below_dr (below_al HB.out)), (S.out.new (NumIs.zero _)).dr.cell 3 rfl⟩
                  | exact ⟨HCS.out _ HB.out, S.out.cell 3 rfl⟩
                  | exact ⟨HCS.out _ (below_al HB.out), (S.out.new (NumIs.zero _)).cell 3 rfl⟩
                  | exact ⟨HCS.out _ (below_al HB.out), (S.out.new (S.out.num 0 rfl)).cell 3 rfl⟩
                  | exact ⟨HCS.out _ HB.out, (S.out.put 0 rfl (S.out.num 0 rfl)).cell 3 rfl⟩
                  | exact ⟨HCS.out _ (below_se HB.out (by have := HB.out.size; have := ZK.out; omega)), (S.out.put 0 rfl (S.out.num 0 rfl)).cell 3 rfl⟩
                  | fail)
                (first
                  | (go_at_call 32; go_must (first
                      | ((with_reducible refine (Add_two GD.out (S.out.dr.num 0 rfl) (S.out.dr.cnum 2 rfl)).mono ?_); rintro e wD ⟨pD, rfl, hb, hn⟩; replace S := Sealed.mk (S.out.dr.res hb hn); replace HB := Sealed.mk (below_chain (below_dr HB.out) hb); clear hb hn)
                      | ((with_reducible refine (Add_two GD.out ((S.out.new (NumIs.zero _)).dr.num 0 rfl) ((S.out.new (NumIs.zero _)).dr.cnum 3 rfl)).mono ?_); rintro e wD ⟨pD, rfl, hb, hn⟩; replace S := Sealed.mk ((S.out.new (NumIs.zero _)).dr.res hb hn); have zc := S.out.cell 0 rfl; have zf := S.out.frozen 0 rfl; have ZK : Sealed (wT.heap.size ≤ wT.heap.size) := ⟨Nat.le_refl _⟩; replace HB := Sealed.mk (below_chain (below_dr (below_al HB.out)) hb); clear hb hn))))
              all_goals
                go_wp2_with fail
                go_meet
                case rel =>
                  first
                    | exact ⟨_, _, rfl, rfl, (S.out.new (S.out.num 0 rfl)).clr⟩
                    | exact ⟨_, _, rfl, rfl, (S.out.put 0 rfl (S.out.num 0 rfl)).clr⟩
            case rest =>
              obtain ⟨kd, pd, rfl, rfl, hS⟩ := hcut
              obtain ⟨WD, hWD⟩ : ∃ WD, WD = wc := ⟨_, rfl⟩
              rw [← hWD] at hS ⊢
              clear hWD HB HCS HPE HBT
              replace S := Sealed.mk hS
              clear hS
              obtain ⟨qd, hwl⟩ := QD.out
              rcases qd with ⟨rfl, rfl⟩ | ⟨rfl, rfl⟩
              · obtain ⟨s2, hs2⟩ : ∃ s2, s2 = sg ((et : Int) + y) := ⟨_, rfl⟩
                have HS2 := Sealed.mk hs2
                have hss : (0 ≤ s2) ↔ Whole x y := by rw [hwl, hs2]; rcases sg_cases ((et : Int) + y) with ⟨h1, h2⟩ | ⟨h1, h2⟩ | ⟨h1, h2⟩ <;> rw [h2] <;> omega
                have qu := QU.out
                have lx := S.out.cell 0 rfl
                clear hs2 hwl QU QD GU GD
                rcases qu with ⟨rfl, hw, -, -⟩ | ⟨rfl, hw, -⟩ | ⟨rfl, hw, -⟩
                · have h2 : 0 ≤ s2 := hss.2 hw
                  clear hss hw
                  go_wp2_with (go_at_call 42; go_must ((with_reducible refine (Sign_any (S.out.cnum 0 rfl)).mono ?_); rintro e w77 ⟨rfl, hb⟩; rw [← HS2.out]; replace S := Sealed.mk (S.out.adv hb); clear hb))
                  go_meet
                  case rel => exact S.out.drop 1
                · have h2 : 0 ≤ s2 := hss.2 hw
                  clear hss hw
                  go_wp2_with (go_at_call 42; go_must ((with_reducible refine (Sign_any (S.out.cnum 0 rfl)).mono ?_); rintro e w77 ⟨rfl, hb⟩; rw [← HS2.out]; replace S := Sealed.mk (S.out.adv hb); clear hb))
                  go_meet
                  case rel => exact S.out.drop 1
                · have h2 : ¬ 0 ≤ s2 := fun h => hw (hss.1 h)
                  clear hss hw
                  go_wp2_with (go_at_call 42; go_must ((with_reducible refine (Sign_any (S.out.cnum 0 rfl)).mono ?_); rintro e w77 ⟨rfl, hb⟩; rw [← HS2.out]; replace S := Sealed.mk (S.out.adv hb); clear hb))
                  go_meet
                  case rel => exact S.out.drop 1
              · clear hwl QU QD GU GD
                go_wp2_with (go_at_call 15; go_must ((with_reducible refine (awake1_any _).mono ?_); rintro e w999 ⟨rfl, hb⟩; replace S := Sealed.mk (S.out.adv hb); clear hb))
                go_ret
                exact ⟨rfl, S.out.below⟩
      case rest =>
        obtain ⟨W19, hW19⟩ : ∃ W19, W19 = wc := ⟨_, rfl⟩
        rw [← hW19] at hcut ⊢
        clear hW19 S
        have S := Sealed.mk hcut; clear hcut
        go_upto_region 18 with fail
        have qu := QU.out
        rcases qu with ⟨rfl, hW, hA, hvu⟩ | ⟨rfl, -, -⟩ | ⟨rfl, -, -⟩
        rotate_left
        · clear QU GU
          go_wp2_with (go_at_call 15; go_must ((with_reducible refine (awake1_any _).mono ?_); rintro e w999 ⟨rfl, hb⟩; replace S := Sealed.mk (S.out.adv hb); clear hb))
          go_ret
          exact ⟨rfl, S.out.below⟩
        · clear QU GU
          go_wp2_with (go_at_call 15; go_must ((with_reducible refine (awake1_any _).mono ?_); rintro e w999 ⟨rfl, hb⟩; replace S := Sealed.mk (S.out.adv hb); clear hb))
          go_ret
          exact ⟨rfl, S.out.below⟩
        have K1 : Sealed (shiftR vu (-y) = (x, 0)) := ⟨by
          obtain ⟨h1, h2⟩ := shl_again hW
          rw [hvu, shiftR_ok h1 (by rw [h2]; exact HZ.out.1.1), h2]⟩
        have HU := Sealed.mk (And.intro hW (And.intro hA hvu))
        clear hW hA hvu QU
        go_upto_region 20 with fail
        go_cut [19, 20] from 129 to 135 (fun vn ve wx => ∃ kn pn, vn = .pointer (some ⟨kn, 0, none⟩) ∧ ve = .int .i64 0 ∧ St w wx [] [(kn, pn, x), (w11.heap.size, p11, vu), (k6, px, x), (k7, py, y), (k8, pz, z)])
        case first =>
          go_region_held3 (fun W => W.cell? ⟨w11.heap.size, 0, none⟩ = some (.pointer p11) ∧ W.cell? ⟨k7, 0, none⟩ = some (.pointer py))
            (first
              | exact ⟨S.out.cell 0 rfl, S.out.cell 2 rfl⟩
              | exact ⟨S.out.dr.cell 0 rfl, S.out.dr.cell 2 rfl⟩
              | exact ⟨S.out.cell 1 rfl, S.out.cell 3 rfl⟩
              | exact ⟨(S.out.new (NumIs.zero _)).dr.cell 1 rfl, (S.out.new (NumIs.zero _)).dr.cell 3 rfl⟩
              | exact ⟨(S.out.new (NumIs.zero _)).cell 1 rfl, (S.out.new (NumIs.zero _)).cell 3 rfl⟩
              | exact ⟨(S.out.put 0 rfl (S.out.num 0 rfl)).cell 1 rfl, (S.out.put 0 rfl (S.out.num 0 rfl)).cell 3 rfl⟩
              | exact ⟨(S.out.new (S.out.num 0 rfl)).cell 1 rfl, (S.out.new (S.out.num 0 rfl)).cell 3 rfl⟩
              | fail)
            (first
              | (go_at_call 39; go_must (first | ((with_reducible refine (Neg_one (S.out.dr.cnum 2 rfl)).mono ?_); rintro e w20 ⟨p20, rfl, hb, hn⟩; replace S := Sealed.mk (S.out.dr.res hb hn); clear hb hn) | ((with_reducible refine (Neg_one ((S.out.new (NumIs.zero _)).dr.cnum 3 rfl)).mono ?_); rintro e w20 ⟨p20, rfl, hb, hn⟩; replace S := Sealed.mk ((S.out.new (NumIs.zero _)).dr.res hb hn); clear hb hn)))
              | (go_at_call 25; go_must (first
                  | ((with_reducible refine (Shift_two K1.out (S.out.cnum 0 rfl) (S.out.num 0 rfl)).mono ?_); rintro e w20' ⟨p20', rfl, hb, hn⟩; replace S := Sealed.mk (S.out.res hb hn); clear hb hn)
                  | ((with_reducible refine (Shift_two K1.out (S.out.cnum 1 rfl) (S.out.num 0 rfl)).mono ?_); rintro e w20' ⟨p20', rfl, hb, hn⟩; replace S := Sealed.mk (S.out.res hb hn); have zc := S.out.cell 0 rfl; have zf := S.out.frozen 0 rfl; clear hb hn)
                  | ((with_reducible refine (Shift_two K1.out ((S.out.new (NumIs.zero _)).cnum 1 rfl) ((S.out.new (NumIs.zero _)).num 0 rfl)).mono ?_); rintro e w20' ⟨p20', rfl, hb, hn⟩; replace S := Sealed.mk ((S.out.new (NumIs.zero _)).res hb hn); have zc := S.out.cell 0 rfl; have zf := S.out.frozen 0 rfl; clear hb hn))))
          all_goals
            go_wp2_with fail
            go_meet
            case rel =>
              first
                | exact ⟨_, _, rfl, rfl, (S.out.new (S.out.num 0 rfl)).clr⟩
                | exact ⟨_, _, rfl, rfl, (S.out.put 0 rfl (S.out.num 0 rfl)).clr⟩
        case rest =>
          obtain ⟨kn20, pn20, rfl, rfl, hS⟩ := hcut
          obtain ⟨W20, hW20⟩ : ∃ W20, W20 = wc := ⟨_, rfl⟩
          rw [← hW20] at hS ⊢
          clear hW20
          replace S := Sealed.mk hS
          clear hS
          go_upto_region 21 with fail
          go_cut [143] from 136 to 143 (fun v wx => v = .bool false ∧ Below W20.heap.size W20 wx)
          case first =>
            have HB := Sealed.mk (Below.refl W20.heap.size W20)
            have ld0 := S.out.cell 0 rfl
            have ld1 := S.out.cell 2 rfl
            go_wp2_with (first
              | (go_at_call 20; go_must (first
                  | ((with_reducible refine (lawSame_any (S.out.cnum 0 rfl) (S.out.cnum 2 rfl)).mono ?_); rintro e w21 ⟨rfl, hb⟩; replace S := Sealed.mk (S.out.adv hb); replace HB := Sealed.mk (below_chain HB.out hb); clear hb; have lx0 := S.out.cell 0 rfl; have lx1 := S.out.cell 2 rfl))))
            all_goals
              go_meet
              case rel => exact ⟨by first | rfl | simp, HB.out⟩
          case rest =>
            obtain ⟨rfl, hbc⟩ := hcut
            obtain ⟨W22, hW22⟩ : ∃ W22, W22 = wc := ⟨_, rfl⟩
            rw [← hW22] at hbc ⊢
            clear hW22
            replace S := Sealed.mk (S.out.adv hbc)
            clear hbc
            go_upto_region 23 with fail
            obtain ⟨vv, ev, gw, qv⟩ := shiftR_ways vu z
            obtain ⟨vh, eh, gh, qh⟩ := gv_two (y + z)
            have GV := Sealed.mk gw
            have GH := Sealed.mk gh
            have QV := Sealed.mk (And.intro qv qh)
            obtain ⟨bh, hbh⟩ : ∃ b : Bool, b = (eh == 0) := ⟨_, rfl⟩
            have BH := Sealed.mk hbh
            clear gw gh qv qh hbh
            have ld0 := S.out.cell 1 rfl
            have ld1 := S.out.cell 4 rfl
            go_upto_region 24 with (go_at_call 25; go_must ((with_reducible refine (Shift_two GV.out (S.out.cnum 1 rfl) (S.out.cnum 4 rfl)).mono ?_); rintro e w23 ⟨p23, rfl, hb, hn⟩; replace S := Sealed.mk (S.out.res hb hn); clear hb hn))
            clear ld0 ld1
            have S0 := (S.out.new (S.out.num 0 rfl)).clr
            obtain ⟨W24, hW24⟩ : ∃ W24, W24 = w23.alloc (.cells #[.pointer p23] 30) := ⟨_, rfl⟩
            rw [← hW24] at S0 ⊢
            replace S := Sealed.mk S0; clear S0 hW24
            have ld0 := S.out.cell 4 rfl
            have ld1 := S.out.cell 5 rfl
            go_upto_region 25 with (go_at_call 32; go_must ((with_reducible refine (Add_two GH.out (S.out.cnum 4 rfl) (S.out.cnum 5 rfl)).mono ?_); rintro e w25 ⟨p25, rfl, hb, hn⟩; replace S := Sealed.mk (S.out.res hb hn); clear hb hn))
            clear ld0 ld1
            have S0 := (S.out.new (S.out.num 0 rfl)).clr
            obtain ⟨W26, hW26⟩ : ∃ W26, W26 = w25.alloc (.cells #[.pointer p25] 30) := ⟨_, rfl⟩
            rw [← hW26] at S0 ⊢
            replace S := Sealed.mk S0; clear S0 hW26
            go_cut [157] from 156 to 157 (fun v wx => v = .bool bh ∧ Below W26.heap.size W26 wx)
            case first =>
              have HB := Sealed.mk (Below.refl W26.heap.size W26)
              go_wp2_with fail
              all_goals
                go_meet
                case rel => exact ⟨by rw [BH.out], HB.out⟩
            case rest =>
              obtain ⟨rfl, hbc⟩ := hcut
              obtain ⟨W27, hW27⟩ : ∃ W27, W27 = wc := ⟨_, rfl⟩
              rw [← hW27] at hbc ⊢
              clear hW27
              replace S := Sealed.mk (S.out.adv hbc)
              clear hbc
              go_upto_if 157 with fail
              go_cut [157] from 158 to 175 (fun _ wx => St w wx [] [(w25.heap.size, p25, vh), (w23.heap.size, p23, vv), (kn20, pn20, x), (w11.heap.size, p11, vu), (k6, px, x), (k7, py, y), (k8, pz, z)])
              case first =>
                cases bh with
                | false =>
                  go_wp2_with fail
                  go_meet
                  case rel => exact S.out
                | true =>
                  have he0 : eh = 0 := eq_of_beq BH.out.symm
                  obtain ⟨qv, qh⟩ := QV.out
                  have hvh : vh = y + z := by rcases qh with ⟨-, h⟩ | ⟨h, -⟩; exact h; omega
                  obtain ⟨vt, et, gt, ht⟩ : ∃ vt et, shiftR x vh = (vt, et) ∧ (ev = 0 → et = 0 ∧ vt = vv) := by
                    rcases qv with ⟨-, h1, h2, h3⟩ | ⟨h, -⟩ | ⟨h, -⟩
                    · obtain ⟨hW, hA, hvu⟩ := HU.out
                      rw [hvu] at h1 h2 h3
                      have h4 := (whole_shl hW).1 h1
                      rw [shl_shl hW h4] at h2 h3
                      exact ⟨_, _, by rw [hvh, shiftR_ok h4 h2], fun _ => ⟨rfl, h3.symm⟩⟩
                    · exact ⟨_, _, rfl, fun h' => by omega⟩
                    · exact ⟨_, _, rfl, fun h' => by omega⟩
                  have hev : ev = 0 ∨ ev = 5 ∨ ev = 4 := by rcases qv with ⟨h, -⟩ | ⟨h, -⟩ | ⟨h, -⟩ <;> simp [h]
                  have GT := Sealed.mk gt
                  have HEV := Sealed.mk (And.intro hev ht)
                  clear qv qh he0 hvh gt ht hev
                  go_upto_region 26 with fail
                  have ld0 := S.out.cell 4 rfl
                  have ld1 := S.out.cell 0 rfl
                  go_upto_region 27 with (go_at_call 25; go_must ((with_reducible refine (Shift_two GT.out (S.out.cnum 4 rfl) (S.out.cnum 0 rfl)).mono ?_); rintro e w28 ⟨p28, rfl, hb, hn⟩; replace S := Sealed.mk (S.out.res hb hn); clear hb hn))
                  clear ld0 ld1
                  have S0 := (S.out.new (S.out.num 0 rfl)).clr
                  obtain ⟨W29, hW29⟩ : ∃ W29, W29 = w28.alloc (.cells #[.pointer p28] 30) := ⟨_, rfl⟩
                  rw [← hW29] at S0 ⊢
                  replace S := Sealed.mk S0; clear S0 hW29
                  obtain ⟨hev, ht⟩ := HEV.out
                  clear HEV GT QV
                  rcases hev with rfl | rfl | rfl
                  · obtain ⟨rfl, rfl⟩ := ht rfl
                    have ld0 := S.out.cell 2 rfl
                    have ld1 := S.out.cell 0 rfl
                    go_wp2_with (go_at_call 20; go_must (first
                      | ((with_reducible refine (lawSame_any (S.out.cnum 2 rfl) (S.out.cnum 0 rfl)).mono ?_); rintro e w300 ⟨rfl, hb⟩; replace S := Sealed.mk (S.out.adv hb); clear hb; have lx0 := S.out.cell 2 rfl; have lx1 := S.out.cell 0 rfl)))
                    go_meet
                    case rel => exact S.out.drop 1
                  · go_wp2_with fail
                    go_meet
                    case rel => exact S.out.drop 1
                  · go_wp2_with fail
                    go_meet
                    case rel => exact S.out.drop 1
              case rest =>
                obtain ⟨W31, hW31⟩ : ∃ W31, W31 = wc := ⟨_, rfl⟩
                rw [← hW31] at hcut ⊢
                clear hW31 S
                have S := Sealed.mk hcut; clear hcut
                go_upto_region 29 with fail
                obtain ⟨vs, es, gs, qs⟩ := gv_two (x + z)
                obtain ⟨vr, er, gr, qr⟩ := shiftR_ways z y
                have GS := Sealed.mk gs
                have GR := Sealed.mk gr
                have QS := Sealed.mk (And.intro qs qr)
                obtain ⟨b3, hb3⟩ : ∃ b : Bool, b = decide (es = 0 ∧ er = 0) := ⟨_, rfl⟩
                have B3 := Sealed.mk hb3
                clear gs gr qs qr hb3
                have ld0 := S.out.cell 4 rfl
                have ld1 := S.out.cell 6 rfl
                go_upto_region 30 with (go_at_call 32; go_must ((with_reducible refine (Add_two GS.out (S.out.cnum 4 rfl) (S.out.cnum 6 rfl)).mono ?_); rintro e w32 ⟨p32, rfl, hb, hn⟩; replace S := Sealed.mk (S.out.res hb hn); clear hb hn))
                clear ld0 ld1
                have S0 := (S.out.new (S.out.num 0 rfl)).clr
                obtain ⟨W33, hW33⟩ : ∃ W33, W33 = w32.alloc (.cells #[.pointer p32] 30) := ⟨_, rfl⟩
                rw [← hW33] at S0 ⊢
                replace S := Sealed.mk S0; clear S0 hW33
                have ld0 := S.out.cell 7 rfl
                have ld1 := S.out.cell 6 rfl
                go_upto_region 31 with (go_at_call 25; go_must ((with_reducible refine (Shift_two GR.out (S.out.cnum 7 rfl) (S.out.cnum 6 rfl)).mono ?_); rintro e w34 ⟨p34, rfl, hb, hn⟩; replace S := Sealed.mk (S.out.res hb hn); clear hb hn))
                clear ld0 ld1
                have S0 := (S.out.new (S.out.num 0 rfl)).clr
                obtain ⟨W35, hW35⟩ : ∃ W35, W35 = w34.alloc (.cells #[.pointer p34] 30) := ⟨_, rfl⟩
                rw [← hW35] at S0 ⊢
                replace S := Sealed.mk S0; clear S0 hW35
                go_cut [193] from 188 to 193 (fun v wx => v = .bool b3 ∧ W35 = wx)
                case first =>
                  obtain ⟨qs, qr⟩ := QS.out
                  have hb1 := B3.out
                  clear B3 QS GS GR
                  rcases qs with ⟨rfl, -⟩ | ⟨rfl, -⟩ <;> rcases qr with ⟨rfl, -⟩ | ⟨rfl, -⟩ | ⟨rfl, -⟩
                  all_goals
                    have hb1' := Sealed.mk hb1; clear hb1
                    go_wp2_with fail
                    go_meet
                    case rel => exact ⟨by rw [hb1'.out]; rfl, rfl⟩
                case rest =>
                  obtain ⟨rfl, rfl⟩ := hcut
                  go_upto_if 193 with fail
                  go_cut [193] from 194 to 217 (fun _ wx => St w wx [] [(w34.heap.size, p34, vr), (w32.heap.size, p32, vs), (w25.heap.size, p25, vh), (w23.heap.size, p23, vv), (kn20, pn20, x), (w11.heap.size, p11, vu), (k6, px, x), (k7, py, y), (k8, pz, z)])
                  case first =>
                    cases b3 with
                    | false =>
                      go_wp2_with fail
                      go_meet
                      case rel => exact S.out
                    | true =>
                      obtain ⟨h1, h2⟩ : es = 0 ∧ er = 0 := of_decide_eq_true B3.out.symm
                      obtain ⟨qs, qr⟩ := QS.out
                      have hvs : vs = x + z := by rcases qs with ⟨-, h⟩ | ⟨h, -⟩; exact h; omega
                      obtain ⟨hWz, hvr⟩ : Whole z y ∧ vr = shl z y := by
                        rcases qr with ⟨-, h, -, k⟩ | ⟨h, -⟩ | ⟨h, -⟩
                        · exact ⟨h, k⟩
                        · omega
                        · omega
                      obtain ⟨v9, e9, g9, q9⟩ := gv_two (vu + vr)
                      have K6 := Sealed.mk g9
                      have K5 : Sealed (shiftR vs y = (v9, e9)) := ⟨by
                        obtain ⟨hW, hA, hvu⟩ := HU.out
                        obtain ⟨k1, k2⟩ := shl_sum hW hWz
                        rw [hvs]
                        unfold shiftR
                        rw [if_pos k1, k2, ← hvu, ← hvr, g9]⟩
                      have Q9 := Sealed.mk q9
                      clear h1 h2 qs qr hvs hWz hvr g9 q9
                      go_upto_region 32 with fail
                      have ld0 := S.out.cell 1 rfl
                      have ld1 := S.out.cell 7 rfl
                      go_upto_region 33 with (go_at_call 25; go_must ((with_reducible refine (Shift_two K5.out (S.out.cnum 1 rfl) (S.out.cnum 7 rfl)).mono ?_); rintro e w36 ⟨p36, rfl, hb, hn⟩; replace S := Sealed.mk (S.out.res hb hn); clear hb hn))
                      clear ld0 ld1
                      have S0 := (S.out.new (S.out.num 0 rfl)).clr
                      obtain ⟨W37, hW37⟩ : ∃ W37, W37 = w36.alloc (.cells #[.pointer p36] 30) := ⟨_, rfl⟩
                      rw [← hW37] at S0 ⊢
                      replace S := Sealed.mk S0; clear S0 hW37
                      have ld0 := S.out.cell 6 rfl
                      have ld1 := S.out.cell 1 rfl
                      go_upto_region 34 with (go_at_call 32; go_must ((with_reducible refine (Add_two K6.out (S.out.cnum 6 rfl) (S.out.cnum 1 rfl)).mono ?_); rintro e w38 ⟨p38, rfl, hb, hn⟩; replace S := Sealed.mk (S.out.res hb hn); clear hb hn))
                      clear ld0 ld1
                      have S0 := (S.out.new (S.out.num 0 rfl)).clr
                      obtain ⟨W39, hW39⟩ : ∃ W39, W39 = w38.alloc (.cells #[.pointer p38] 30) := ⟨_, rfl⟩
                      rw [← hW39] at S0 ⊢
                      replace S := Sealed.mk S0; clear S0 hW39
                      have q9 := Q9.out
                      clear Q9 K5 K6 QS GS GR
                      rcases q9 with ⟨rfl, -⟩ | ⟨rfl, -⟩
                      all_goals
                        have ld0 := S.out.cell 1 rfl
                        have ld1 := S.out.cell 0 rfl
                        go_wp2_with (go_at_call 20; go_must (first
                          | ((with_reducible refine (lawSame_any (S.out.cnum 1 rfl) (S.out.cnum 0 rfl)).mono ?_); rintro e w400 ⟨rfl, hb⟩; replace S := Sealed.mk (S.out.adv hb); clear hb; have lx0 := S.out.cell 1 rfl; have lx1 := S.out.cell 0 rfl)))
                        go_meet
                        case rel => exact S.out.drop 2
                  case rest =>
                    obtain ⟨W41, hW41⟩ : ∃ W41, W41 = wc := ⟨_, rfl⟩
                    rw [← hW41] at hcut ⊢
                    clear hW41 S
                    have S := Sealed.mk hcut; clear hcut
                    go_upto_region 36 with fail
                    go_wp2_with (go_at_call 15; go_must ((with_reducible refine (awake1_any _).mono ?_); rintro e w999 ⟨rfl, hb⟩; replace S := Sealed.mk (S.out.adv hb); clear hb))
                    go_ret
                    exact ⟨rfl, S.out.below⟩

end Go.Proofs.Ytgchfbfgjanaiaa
