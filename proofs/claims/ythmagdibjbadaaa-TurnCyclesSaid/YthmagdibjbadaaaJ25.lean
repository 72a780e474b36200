/-
  sandreckonerlaw04.awake
  sandreckonerlaw04.TurnCycles: the walk
-/
import Derived.Test.YthmagdibjbadaaaJ24
set_option linter.unusedSimpArgs false
set_option linter.unusedVariables false
namespace Go.Proofs.Ythmagdibjbadaaa
open Go.RowKit Sr

/-- awake's turn -/
def tw : Nat → Int
  | 0 => 1
  | 1 => 1
  | 4 => 1
  | _ => 0

def L16 : List St := (List.range 16).map (itr (nx tw 7) (fst 7 (1, 0, 0)))

set_option maxRecDepth 100000 in
theorem way16 : IsWay (nx tw 7) (fst 7 (1, 0, 0)) L16 0 where
  lt := by decide
  get := fun i hi => by
    have hl : L16.length = 16 := by simp [L16]
    rw [hl] at hi
    simp [L16, hi]
  nodup := by decide
  back := by decide

theorem len16 : L16.length = 16 := by simp [L16]

theorem five16 : itr (nx tw 7) (fst 7 (1, 0, 0)) 5 = (1, 5, 0) := by decide

/-- what After owes at awake's call -/
theorem after_awake {w : World} {u : Value} (hu : NumIs w u 5) : Calls Try.prog 12 #[.agg #[.int .i64 1, .int .i64 1, .int .i64 0, .int .i64 0, .int .i64 1, .int .i64 0, .int .i64 0, .int .i64 0, .int .i64 0, .int .i64 0, .int .i64 0, .int .i64 0], .agg #[.int .i64 1, .int .i64 0, .int .i64 0], u, .int .i64 7] w
    fun e w' => e = .returned (.tuple #[.agg #[.int .i64 1, .int .i64 5, .int .i64 0], .int .i64 0]) ∧ Below w.heap.size w w' :=
  (After_any (t := tw) (s := (1, 0, 0)) (m := 7) (i := 5) (by omega) (by omega) hu (fun L lead h => by
    obtain ⟨rfl, -⟩ := h.one way16
    rw [len16]
    omega)).mono fun e w' h => by
      obtain ⟨rfl, hb⟩ := h
      rw [five16]
      exact ⟨rfl, hb⟩

theorem eql_awake (W : World) : (Op.equalIn 10000 26 (.agg #[.int .i64 1, .int .i64 5, .int .i64 0]) (.agg #[.int .i64 1, .int .i64 5, .int .i64 0])).run Try.prog W = .ok true W := kk_st.equal (1, 5, 0) (1, 5, 0) W

theorem cyc_awake {w w' : World} {e : Ending} (h : CycOut tw (1, 0, 0) 7 w e w') : e = .returned (.tuple #[.int .i64 0, .int .i64 16, .int .i64 0]) ∧ Below w.heap.size w w' := by
  refine ⟨?_, h.1⟩
  rcases h.2 with ⟨h0, -⟩ | ⟨-, -, L, lead, hway, -, rfl⟩
  · exact absurd ⟨by omega, by omega⟩ h0
  · obtain ⟨rfl, rfl⟩ := hway.one way16
    rw [len16]
    rfl

set_option maxRecDepth 100000 in
set_option maxHeartbeats 4000000 in
theorem awake_any (w : World) : Calls Try.prog 6 #[] w fun e w' => e = .returned (.bool true) ∧ Below w.heap.size w w' := by
  have hcy : ∀ W, Calls Try.prog 5 #[.agg #[.int .i64 1, .int .i64 1, .int .i64 0, .int .i64 0, .int .i64 1, .int .i64 0, .int .i64 0, .int .i64 0, .int .i64 0, .int .i64 0, .int .i64 0, .int .i64 0], .agg #[.int .i64 1, .int .i64 0, .int .i64 0], .int .i64 7] W fun e w' => e = .returned (.tuple #[.int .i64 0, .int .i64 16, .int .i64 0]) ∧ Below W.heap.size W w' := fun W => (turnCycle_any tw (1, 0, 0) 7 W).mono fun _ _ h => cyc_awake h
  have HCY := Sealed.mk hcy; clear hcy
  go_enter Try.func6, Try.ntmps6
  go_wp2_with (first
    | (go_at_call 5; go_must (refine (HCY.out _).mono ?_; rintro e w5 ⟨rfl, hb5⟩)))
  have b2 : Below w.heap.size w (w.alloc (.cells #[.int .i64 1, .int .i64 1, .int .i64 0, .int .i64 0, .int .i64 1, .int .i64 0, .int .i64 0, .int .i64 0, .int .i64 0, .int .i64 0, .int .i64 0, .int .i64 0] 25)) := below_st' (Below.refl _ _) _
  have z2 := blk_alloc w (.cells #[.int .i64 1, .int .i64 1, .int .i64 0, .int .i64 0, .int .i64 1, .int .i64 0, .int .i64 0, .int .i64 0, .int .i64 0, .int .i64 0, .int .i64 0, .int .i64 0] 25)
  have b05 := below_chain b2 hb5
  have z5 := (hb5.block _ (lt_of_blk z2)).trans z2
  clear b2 z2 hb5
  have ks : ∀ w', Ext noB w5 w' → w'.cell? ⟨w.heap.size, 0, none⟩ = some (.int .i64 1) ∧ w'.cell? ⟨w.heap.size, 1, none⟩ = some (.int .i64 1) ∧ w'.cell? ⟨w.heap.size, 2, none⟩ = some (.int .i64 0) ∧ w'.cell? ⟨w.heap.size, 3, none⟩ = some (.int .i64 0) ∧ w'.cell? ⟨w.heap.size, 4, none⟩ = some (.int .i64 1) ∧ w'.cell? ⟨w.heap.size, 5, none⟩ = some (.int .i64 0) ∧ w'.cell? ⟨w.heap.size, 6, none⟩ = some (.int .i64 0) ∧ w'.cell? ⟨w.heap.size, 7, none⟩ = some (.int .i64 0) ∧ w'.cell? ⟨w.heap.size, 8, none⟩ = some (.int .i64 0) ∧ w'.cell? ⟨w.heap.size, 9, none⟩ = some (.int .i64 0) ∧ w'.cell? ⟨w.heap.size, 10, none⟩ = some (.int .i64 0) ∧ w'.cell? ⟨w.heap.size, 11, none⟩ = some (.int .i64 0) := fun w' hx => by
    have y := hx.get z5 (fun e => e)
    exact ⟨(cell_of_blk y 0).trans rfl, (cell_of_blk y 1).trans rfl, (cell_of_blk y 2).trans rfl, (cell_of_blk y 3).trans rfl, (cell_of_blk y 4).trans rfl, (cell_of_blk y 5).trans rfl, (cell_of_blk y 6).trans rfl, (cell_of_blk y 7).trans rfl, (cell_of_blk y 8).trans rfl, (cell_of_blk y 9).trans rfl, (cell_of_blk y 10).trans rfl, (cell_of_blk y 11).trans rfl⟩
  have heq := eql_awake
  have hof := fun w => of_num (w := w) (n := 5) (by omega) (by omega)
  have hof10 := fun w => of_num (w := w) (n := 10) (by omega) (by omega)
  have HX5 := Sealed.mk ((Ext.refl noB w5).drew)
  have HKS := Sealed.mk ks; clear ks
  have H5 := Sealed.mk b05; clear b05 z5
  go_region_held3 (fun w' => w'.cell? ⟨w.heap.size, 0, none⟩ = some (.int .i64 1) ∧ w'.cell? ⟨w.heap.size, 1, none⟩ = some (.int .i64 1) ∧ w'.cell? ⟨w.heap.size, 2, none⟩ = some (.int .i64 0) ∧ w'.cell? ⟨w.heap.size, 3, none⟩ = some (.int .i64 0) ∧ w'.cell? ⟨w.heap.size, 4, none⟩ = some (.int .i64 1) ∧ w'.cell? ⟨w.heap.size, 5, none⟩ = some (.int .i64 0) ∧ w'.cell? ⟨w.heap.size, 6, none⟩ = some (.int .i64 0) ∧ w'.cell? ⟨w.heap.size, 7, none⟩ = some (.int .i64 0) ∧ w'.cell? ⟨w.heap.size, 8, none⟩ = some (.int .i64 0) ∧ w'.cell? ⟨w.heap.size, 9, none⟩ = some (.int .i64 0) ∧ w'.cell? ⟨w.heap.size, 10, none⟩ = some (.int .i64 0) ∧ w'.cell? ⟨w.heap.size, 11, none⟩ = some (.int .i64 0))
    (first | exact HKS.out _ HX7.out | exact HKS.out _ (HX7.out.alloc _) | exact HKS.out _ HX6.out | exact HKS.out _ (HX6.out.alloc _) | exact HKS.out _ HX5.out | exact HKS.out _ (HX5.out.alloc _) | exact HKS.out _ (((HX7.out.setCell (.inr HX6.out.size) _).setCell (.inr HX6.out.size) _).setCell (.inr HX6.out.size) _) | exact HKS.out _ (((HX7.out.setCell (.inr (Nat.le_refl _)) _).setCell (.inr (Nat.le_refl _)) _).setCell (.inr (Nat.le_refl _)) _))
    (first
      | (go_at_call 13; go_must (first
        | (refine (hof _).mono ?_; rintro e w6 ⟨u, rfl, hu, hb6⟩; have HX6 := Sealed.mk (HX5.out.trans (Ext.of_below (M := noB) hb6) (fun _ h => h.elim)); have HU := Sealed.mk hu; clear hu hb6)
        | (refine (hof _).mono ?_; rintro e w6 ⟨u, rfl, hu, hb6⟩; have HX6 := Sealed.mk ((HX5.out.alloc _).trans (Ext.of_below (M := noB) hb6) (fun _ h => h.elim)); have HU := Sealed.mk hu; have HAO : Sealed (w6.heap[w5.heap.size]? = some (.cells #[.int .i64 0, .int .i64 0, .int .i64 0] 26 (0, 0))) := ⟨(hb6.block _ (by simp)).trans (blk_alloc w5 _)⟩; clear hu hb6)))
      | (go_at_call 12; go_must (first
        | (have y6 := HAO.out; refine (after_awake HU.out).mono ?_; rintro e w7 ⟨rfl, hb7⟩; have HX7 := Sealed.mk (HX6.out.trans (Ext.of_below (M := noB) hb7) (fun _ h => h.elim)); have y8 := (hb7.block _ (lt_of_blk y6)).trans y6; clear y6; have d0 : w7.cell? ⟨w5.heap.size, 0, none⟩ = some (.int .i64 0) := (cell_of_blk y8 0).trans rfl; have d1 : w7.cell? ⟨w5.heap.size, 1, none⟩ = some (.int .i64 0) := (cell_of_blk y8 1).trans rfl; have d2 : w7.cell? ⟨w5.heap.size, 2, none⟩ = some (.int .i64 0) := (cell_of_blk y8 2).trans rfl; have t0 : w7.frozen? ⟨w5.heap.size, 0, none⟩ = false := frozen_of_blk y8 0; have t1 : w7.frozen? ⟨w5.heap.size, 1, none⟩ = false := frozen_of_blk y8 1; have t2 : w7.frozen? ⟨w5.heap.size, 2, none⟩ = false := frozen_of_blk y8 2; have H8 := Sealed.mk y8; clear hb7 y8)
        | (refine (after_awake HU.out).mono ?_; rintro e w7 ⟨rfl, hb7⟩; have HX7 := Sealed.mk (HX6.out.trans (Ext.of_below (M := noB) hb7) (fun _ h => h.elim)); clear hb7)
        | (refine (after_awake (HU.out.below (below_st' (Below.refl _ _) _))).mono ?_; rintro e w7 ⟨rfl, hb7⟩; have HX7 := Sealed.mk ((HX6.out.alloc _).trans (Ext.of_below (M := noB) hb7) (fun _ h => h.elim)); have y8 : w7.heap[w6.heap.size]? = some (.cells #[.int .i64 0, .int .i64 0, .int .i64 0] 26 (0, 0)) := (hb7.block _ (by simp)).trans (blk_alloc w6 _); have d0 : w7.cell? ⟨w6.heap.size, 0, none⟩ = some (.int .i64 0) := (cell_of_blk y8 0).trans rfl; have d1 : w7.cell? ⟨w6.heap.size, 1, none⟩ = some (.int .i64 0) := (cell_of_blk y8 1).trans rfl; have d2 : w7.cell? ⟨w6.heap.size, 2, none⟩ = some (.int .i64 0) := (cell_of_blk y8 2).trans rfl; have t0 : w7.frozen? ⟨w6.heap.size, 0, none⟩ = false := frozen_of_blk y8 0; have t1 : w7.frozen? ⟨w6.heap.size, 1, none⟩ = false := frozen_of_blk y8 1; have t2 : w7.frozen? ⟨w6.heap.size, 2, none⟩ = false := frozen_of_blk y8 2; have H8 := Sealed.mk y8; clear hb7 y8))))
  all_goals (first
    | (obtain ⟨W8, hW8⟩ : ∃ W8, W8 = w7.alloc (.cells #[.int .i64 1, .int .i64 5, .int .i64 0] 26) := ⟨_, rfl⟩; rw [← hW8]; obtain ⟨q, hq⟩ : ∃ q, q = w7.heap.size := ⟨_, rfl⟩; have z8 : W8.heap[q]? = some (.cells #[.int .i64 1, .int .i64 5, .int .i64 0] 26 (0, 0)) := (by rw [hW8, hq]; exact blk_alloc _ _); have hx8 : Ext noB w5 W8 := (by rw [hW8]; exact HX7.out.alloc _); rw [← hq]; clear hW8 hq)
    | (obtain ⟨W8, hW8⟩ : ∃ W8, W8 = ((w7.setCell ⟨w6.heap.size, 0, none⟩ (.int .i64 1)).setCell ⟨w6.heap.size, 1, none⟩ (.int .i64 5)).setCell ⟨w6.heap.size, 2, none⟩ (.int .i64 0) := ⟨_, rfl⟩; rw [← hW8]; obtain ⟨q, hq⟩ : ∃ q, q = w6.heap.size := ⟨_, rfl⟩; have z8 : W8.heap[q]? = some (.cells #[.int .i64 1, .int .i64 5, .int .i64 0] 26 (0, 0)) := (by rw [hW8, hq, blk_setCell (blk_setCell (blk_setCell H8.out 0 _) 1 _) 2 _]; rfl); have hx8 : Ext noB w5 W8 := (by rw [hW8]; exact ((HX7.out.setCell (.inr (HX6.out.size)) _).setCell (.inr (HX6.out.size)) _).setCell (.inr (HX6.out.size)) _); rw [← hq]; clear hW8 hq)
    | (obtain ⟨W8, hW8⟩ : ∃ W8, W8 = ((w7.setCell ⟨w5.heap.size, 0, none⟩ (.int .i64 1)).setCell ⟨w5.heap.size, 1, none⟩ (.int .i64 5)).setCell ⟨w5.heap.size, 2, none⟩ (.int .i64 0) := ⟨_, rfl⟩; rw [← hW8]; obtain ⟨q, hq⟩ : ∃ q, q = w5.heap.size := ⟨_, rfl⟩; have z8 : W8.heap[q]? = some (.cells #[.int .i64 1, .int .i64 5, .int .i64 0] 26 (0, 0)) := (by rw [hW8, hq, blk_setCell (blk_setCell (blk_setCell H8.out 0 _) 1 _) 2 _]; rfl); have hx8 : Ext noB w5 W8 := (by rw [hW8]; exact ((HX7.out.setCell (.inr (Nat.le_refl _)) _).setCell (.inr (Nat.le_refl _)) _).setCell (.inr (Nat.le_refl _)) _); rw [← hq]; clear hW8 hq))
  all_goals
    have HZ8 := Sealed.mk (And.intro z8 (And.intro hx8 H5.out)); clear z8 hx8
    have HBS : Sealed (∀ w10 u, NumIs w10 u 10 → Below ((W8.alloc (.cells #[.int .i64 1, .int .i64 1] 3)).alloc (.cells #[.int .i64 0, .int .i64 1] 3)).heap.size ((W8.alloc (.cells #[.int .i64 1, .int .i64 1] 3)).alloc (.cells #[.int .i64 0, .int .i64 1] 3)) w10 →
        Calls Try.prog 14 #[.slice (some ⟨W8.heap.size, 0, none⟩) 2 2, .slice (some ⟨W8.heap.size + 1, 0, none⟩) 2 2, u, .int .i64 60] w10 fun e w' => e = .returned (.tuple #[.int .i64 55, .int .i64 0]) ∧ Below w10.heap.size w10 w') := ⟨fun w10 u hu hb => by
      have y0 := blk_alloc_old (blk_alloc W8 (.cells #[.int .i64 1, .int .i64 1] 3)) (.cells #[.int .i64 0, .int .i64 1] 3)
      have y1 := blk_alloc (W8.alloc (.cells #[.int .i64 1, .int .i64 1] 3)) (.cells #[.int .i64 0, .int .i64 1] 3)
      simp only [World.size_alloc] at y1
      exact recur_any ((hb.block _ (lt_of_blk y0)).trans y0) ((hb.block _ (lt_of_blk y1)).trans y1) hu⟩
    go_wp2_with (first
      | (go_at_call 13; go_must (refine (hof10 _).mono ?_; rintro e w10 ⟨u10, rfl, hu10, hb10⟩; have HR := Sealed.mk (HBS.out w10 u10 hu10 hb10); have HB10 := Sealed.mk hb10; clear hu10 hb10))
      | (go_at_call 14; go_must (refine HR.out.mono ?_; rintro e w11 ⟨rfl, hb11⟩; have b8 : Below W8.heap.size W8 w11 := below_chain (below_chain (below_st' (below_st' (Below.refl _ _) _) _) HB10.out) hb11; have z11 := (b8.block _ (lt_of_blk HZ8.out.1)).trans HZ8.out.1; have d10 : w11.cell? ⟨q, 0, none⟩ = some (.int .i64 1) := (cell_of_blk z11 0).trans rfl; have d11 : w11.cell? ⟨q, 1, none⟩ = some (.int .i64 5) := (cell_of_blk z11 1).trans rfl; have d12 : w11.cell? ⟨q, 2, none⟩ = some (.int .i64 0) := (cell_of_blk z11 2).trans rfl; have HB11 := Sealed.mk b8; clear b8 z11 hb11)))
    refine bodyPost_ret (v := .bool true) (by simp [results, Try.results6, go_sem]) rfl ⟨rfl, ?_⟩
    exact below_chain (below_chain HZ8.out.2.2 HZ8.out.2.1.below) HB11.out

end Go.Proofs.Ythmagdibjbadaaa

namespace Go.Proofs.Ythmagdibjbadaaa
open Go.RowKit Sr

/-- a turn's twelve numbers as a function -/
def tof (a0 a1 a2 a3 a4 a5 a6 a7 a8 a9 a10 a11 : Int) : Nat → Int
  | 0 => a0
  | 1 => a1
  | 2 => a2
  | 3 => a3
  | 4 => a4
  | 5 => a5
  | 6 => a6
  | 7 => a7
  | 8 => a8
  | 9 => a9
  | 10 => a10
  | _ => a11

theorem cyc_shape {t : Nat → Int} {s : St} {m : Int} {w w' : World} {e : Ending} (h : CycOut t s m w e w') :
    ∃ x y z, e = .returned (.tuple #[.int .i64 x, .int .i64 y, .int .i64 z]) ∧ Below w.heap.size w w' ∧ ∀ W e2 W2, CycOut t s m W e2 W2 → e2 = .returned (.tuple #[.int .i64 x, .int .i64 y, .int .i64 z]) ∧ Below W.heap.size W W2 := by
  obtain ⟨hb, h⟩ := h
  rcases h with ⟨h0, rfl⟩ | ⟨h1, h2, L, lead, hway, -, rfl⟩
  · refine ⟨0, 0, 1, rfl, hb, fun W e2 W2 k => ⟨?_, k.1⟩⟩
    rcases k.2 with ⟨-, rfl⟩ | ⟨k1, k2, -⟩
    · rfl
    · exact absurd ⟨k1, k2⟩ h0
  · refine ⟨_, _, 0, rfl, hb, fun W e2 W2 k => ⟨?_, k.1⟩⟩
    rcases k.2 with ⟨k0, -⟩ | ⟨-, -, L', lead', hway', -, rfl⟩
    · exact absurd ⟨h1, h2⟩ k0
    · obtain ⟨rfl, rfl⟩ := hway'.one hway
      rfl

set_option maxRecDepth 100000 in
set_option maxHeartbeats 4000000 in
theorem law_any (a0 a1 a2 a3 a4 a5 a6 a7 a8 a9 a10 a11 a12 a13 a14 a15 : Int) (w : World) : Calls Try.prog 3 #[.agg #[.int .i64 a0, .int .i64 a1, .int .i64 a2, .int .i64 a3, .int .i64 a4, .int .i64 a5, .int .i64 a6, .int .i64 a7, .int .i64 a8, .int .i64 a9, .int .i64 a10, .int .i64 a11, .int .i64 a12, .int .i64 a13, .int .i64 a14, .int .i64 a15]] w fun e w' => e = .returned (.bool true) ∧ Below w.heap.size w w' := by
  have h1 : ∀ W, Calls Try.prog 4 #[.agg #[.int .i64 a0, .int .i64 a1, .int .i64 a2, .int .i64 a3, .int .i64 a4, .int .i64 a5, .int .i64 a6, .int .i64 a7, .int .i64 a8, .int .i64 a9, .int .i64 a10, .int .i64 a11], .agg #[.int .i64 a12, .int .i64 a13, .int .i64 a14], .int .i64 a15] W (CycOut (tof a0 a1 a2 a3 a4 a5 a6 a7 a8 a9 a10 a11) (a12, a13, a14) a15 W) := fun W => ref04Cycle_any _ _ _ W
  have h2 : ∀ W, Calls Try.prog 5 #[.agg #[.int .i64 a0, .int .i64 a1, .int .i64 a2, .int .i64 a3, .int .i64 a4, .int .i64 a5, .int .i64 a6, .int .i64 a7, .int .i64 a8, .int .i64 a9, .int .i64 a10, .int .i64 a11], .agg #[.int .i64 a12, .int .i64 a13, .int .i64 a14], .int .i64 a15] W (CycOut (tof a0 a1 a2 a3 a4 a5 a6 a7 a8 a9 a10 a11) (a12, a13, a14) a15 W) := fun W => turnCycle_any _ _ _ W
  have H12 := Sealed.mk (And.intro h1 h2); clear h1 h2
  obtain ⟨W1, hW1⟩ : ∃ W1, W1 = w.alloc (.cells #[.int .i64 a0, .int .i64 a1, .int .i64 a2, .int .i64 a3, .int .i64 a4, .int .i64 a5, .int .i64 a6, .int .i64 a7, .int .i64 a8, .int .i64 a9, .int .i64 a10, .int .i64 a11, .int .i64 a12, .int .i64 a13, .int .i64 a14, .int .i64 a15] 28) := ⟨_, rfl⟩
  have z1 : W1.heap[w.heap.size]? = some (.cells #[.int .i64 a0, .int .i64 a1, .int .i64 a2, .int .i64 a3, .int .i64 a4, .int .i64 a5, .int .i64 a6, .int .i64 a7, .int .i64 a8, .int .i64 a9, .int .i64 a10, .int .i64 a11, .int .i64 a12, .int .i64 a13, .int .i64 a14, .int .i64 a15] 28 (0, 0)) := by rw [hW1]; exact blk_alloc _ _
  have b1 : Below w.heap.size w W1 := by rw [hW1]; exact below_st' (Below.refl _ _) _
  have HW := Sealed.mk (And.intro hW1 (And.intro z1 b1)); clear hW1 z1 b1
  go_enter Try.func3, Try.ntmps3
  go_wp2_with (first
    | (go_at_call 4; go_must (refine (H12.out.1 _).mono ?_; rintro e w5 h; obtain ⟨x1, x2, x3, rfl, hb, hdet⟩ := cyc_shape h; rw [← HW.out.1] at hb; have y := (hb.block _ (lt_of_blk HW.out.2.1)).trans HW.out.2.1; have c0 : w5.cell? ⟨w.heap.size, 0, none⟩ = some (.int .i64 a0) := (cell_of_blk y 0).trans rfl; have c1 : w5.cell? ⟨w.heap.size, 1, none⟩ = some (.int .i64 a1) := (cell_of_blk y 1).trans rfl; have c2 : w5.cell? ⟨w.heap.size, 2, none⟩ = some (.int .i64 a2) := (cell_of_blk y 2).trans rfl; have c3 : w5.cell? ⟨w.heap.size, 3, none⟩ = some (.int .i64 a3) := (cell_of_blk y 3).trans rfl; have c4 : w5.cell? ⟨w.heap.size, 4, none⟩ = some (.int .i64 a4) := (cell_of_blk y 4).trans rfl; have c5 : w5.cell? ⟨w.heap.size, 5, none⟩ = some (.int .i64 a5) := (cell_of_blk y 5).trans rfl; have c6 : w5.cell? ⟨w.heap.size, 6, none⟩ = some (.int .i64 a6) := (cell_of_blk y 6).trans rfl; have c7 : w5.cell? ⟨w.heap.size, 7, none⟩ = some (.int .i64 a7) := (cell_of_blk y 7).trans rfl; have c8 : w5.cell? ⟨w.heap.size, 8, none⟩ = some (.int .i64 a8) := (cell_of_blk y 8).trans rfl; have c9 : w5.cell? ⟨w.heap.size, 9, none⟩ = some (.int .i64 a9) := (cell_of_blk y 9).trans rfl; have c10 : w5.cell? ⟨w.heap.size, 10, none⟩ = some (.int .i64 a10) := (cell_of_blk y 10).trans rfl; have c11 : w5.cell? ⟨w.heap.size, 11, none⟩ = some (.int .i64 a11) := (cell_of_blk y 11).trans rfl; have c12 : w5.cell? ⟨w.heap.size, 12, none⟩ = some (.int .i64 a12) := (cell_of_blk y 12).trans rfl; have c13 : w5.cell? ⟨w.heap.size, 13, none⟩ = some (.int .i64 a13) := (cell_of_blk y 13).trans rfl; have c14 : w5.cell? ⟨w.heap.size, 14, none⟩ = some (.int .i64 a14) := (cell_of_blk y 14).trans rfl; have c15 : w5.cell? ⟨w.heap.size, 15, none⟩ = some (.int .i64 a15) := (cell_of_blk y 15).trans rfl; have H5 := Sealed.mk (And.intro y (And.intro (below_chain HW.out.2.2 hb) hdet)); clear y hb hdet h))
    | (go_at_call 5; go_must (refine (H12.out.2 _).mono ?_; rintro e w6 h; obtain ⟨rfl, hb⟩ := H5.out.2.2 _ _ _ h; have H6 := Sealed.mk (below_chain H5.out.2.1 hb); clear hb h))
    | (go_at_call 6; go_must (refine (awake_any _).mono ?_; rintro e w7 ⟨rfl, hb⟩; have H7 := Sealed.mk (below_chain H6.out hb); clear hb)))
  refine bodyPost_ret (v := .bool true) (by simp [results, Try.results3, go_sem]) rfl ⟨rfl, ?_⟩
  exact H7.out

end Go.Proofs.Ythmagdibjbadaaa
