/- sandreckonerref04.Cycle, turn.Cycle -/
import Derived.Test.YthmagdibjbadaaaJ19
import Derived.BigQuiet
set_option linter.unusedSimpArgs false
set_option linter.unusedVariables false
namespace Go.Proofs.Ythmagdibjbadaaa
open Go.RowKit

/-- what both Cycles answer -/
def CycOut (t : Nat → Int) (s : St) (m : Int) (w : World) (e : Ending) (w' : World) : Prop :=
  Below w.heap.size w w' ∧ ((¬ (1 ≤ m ∧ m ≤ 60) ∧ e = .returned (.tuple #[.int .i64 0, .int .i64 0, .int .i64 1])) ∨
    (1 ≤ m ∧ m ≤ 60 ∧ ∃ (L : List St) (lead : Nat), IsWay (nx t m) (fst m s) L lead ∧ L.length ≤ 216000 ∧ e = .returned (.tuple #[.int .i64 (lead : Int), .int .i64 ((L.length : Int) - (lead : Int)), .int .i64 0])))

theorem way_few {t : Nat → Int} {s : St} {m : Int} (hm : 0 < m) (h2 : m ≤ 60) {L : List St} {lead : Nat} (h : IsWay (nx t m) (fst m s) L lead) : L.length ≤ 216000 := by
  have := few_states (m := m) h.nodup fun s' hs => by
    obtain ⟨i, hi⟩ := List.getElem?_of_mem hs
    have hl := (List.getElem?_eq_some_iff.1 hi).1
    rw [h.get i hl] at hi
    rw [← Option.some.inj hi]
    exact itr_ok (fun s _ => nx_ok hm t s) (fst_ok hm s) _
  have := cube_le hm h2
  omega

set_option maxRecDepth 100000 in
set_option maxHeartbeats 4000000 in
theorem ref04Cycle_any (t : Nat → Int) (s : St) (m : Int) (w : World) : Calls Try.prog 4 #[turnv t, stv s, .int .i64 m] w (CycOut t s m w) := by
  have hal := fun w => allowed04_any m w
  by_cases hm : 1 ≤ m ∧ m ≤ 60
  · have hd : decide (1 ≤ m ∧ m ≤ 60) = true := by simp [hm]
    rw [hd] at hal
    have hw := fun w => wayOf_any (w := w) (t := t) (m := m) (s := s) (by omega) hm.2
    have HW := Sealed.mk hw; clear hw
    have HM := Sealed.mk hm; clear hm hd
    unfold turnv stv at HW ⊢
    go_enter Try.func4, Try.ntmps4
    go_wp2_with (first
      | (go_at_call 7; go_must (refine (hal _).mono ?_; rintro e w1 ⟨rfl, rfl⟩))
      | (go_at_call 8; go_must (refine (HW.out _).mono ?_; rintro e w2 ⟨L, lead, a, c, rfl, hway, hb⟩; have hlt := hway.lt; have hfew := way_few HM.out.1 HM.out.2 hway; generalize hn : L.length = n at hlt hfew ⊢; have HWY := Sealed.mk (And.intro hway (And.intro hb hn)); clear hway hb hn)))
    have hw1 : wrap64 ((n : Int) - (lead : Int)) = (n : Int) - (lead : Int) := by unfold wrap64; omega
    go_quiet (fail)
    go_wp2_with fail
    refine bodyPost_ret (v := .tuple #[.int .i64 (lead : Int), .int .i64 ((n : Int) - (lead : Int)), .int .i64 0]) (by simp [results, Try.results4, go_sem, hw1]) rfl ?_
    obtain ⟨hway, hb, hn⟩ := HWY.out
    refine ⟨?_, .inr ⟨HM.out.1, HM.out.2, L, lead, hway, by omega, by rw [hn]⟩⟩
    have h0 : Below w.heap.size w ((w.alloc (.cells (turnCells t) 25)).alloc (.cells #[.int .i64 s.1, .int .i64 s.2.1, .int .i64 s.2.2] 26)) := by
      repeat (first | exact Below.refl _ _ | refine below_st ?_ _)
    have h1 := h0.trans (below_mono hb h0.size)
    have h3 := below_st h1 (.cells #[.slice a n c, .int .i64 (lead : Int)] 37)
    exact ⟨h3.os, h3.tape, h3.output, h3.size, h3.block⟩
  · have hd : decide (1 ≤ m ∧ m ≤ 60) = false := by simp [hm]
    rw [hd] at hal
    have HM := Sealed.mk hm; clear hm hd
    unfold turnv stv
    go_enter Try.func4, Try.ntmps4
    go_wp2_with (go_at_call 7; go_must (refine (hal _).mono ?_; rintro e w1 ⟨rfl, rfl⟩))
    refine bodyPost_ret (v := .tuple #[.int .i64 0, .int .i64 0, .int .i64 1]) (by simp [results, Try.results4, go_sem]) rfl ⟨?_, .inl ⟨HM.out, rfl⟩⟩
    repeat (first | exact Below.refl _ _ | refine below_st ?_ _)

set_option maxRecDepth 100000 in
theorem wayLength_any {a : Option Addr} {n c lead : Nat} (hl : lead ≤ n) (hn : n ≤ 216000) (w : World) : Calls Try.prog 11 #[.agg #[.slice a n c, .int .i64 (lead : Int)]] w fun e w' => e = .returned (.int .i64 ((n : Int) - (lead : Int))) ∧ Below w.heap.size w w' := by
  have hw1 : wrap64 ((n : Int) - (lead : Int)) = (n : Int) - (lead : Int) := by unfold wrap64; omega
  go_enter Try.func11, Try.ntmps11
  go_wp2_with fail
  go_ret
  refine ⟨by first | rfl | simp [hw1], ?_⟩
  repeat (first | exact Below.refl _ _ | refine below_st ?_ _)

theorem enters_turningF : ∀ args w, (callFunc 19 args).run Try.prog w = .ok (.enter 19 args) w := fun _ _ => by kernel_rfl

theorem TurnFn.calls {W : World} {f : Value} {t : Nat → Int} {m : Int} (h : TurnFn W f t m) (hm : 0 < m) (h2 : m ≤ 60) : ∃ cb, f = .func (.func 19) #[] cb ∧
    ∀ s, OkSt m s → ∀ w', Below W.heap.size W w' → Calls Try.prog 19 (#[stv s] ++ cb) w' fun e w'' => e = .returned (stv (nx t m s)) ∧ Below w'.heap.size w' w'' := by
  obtain ⟨bt, bm, rfl, h1, h3⟩ := h.shape
  refine ⟨_, rfl, fun s hs w' hb => ?_⟩
  exact turningF_any t s m hm h2 hs ((hb.block _ (lt_of_blk h1)).trans h1) ((hb.block _ (lt_of_blk h3)).trans h3)

theorem TurnFn.below {W W' : World} {f : Value} {t : Nat → Int} {m : Int} (h : TurnFn W f t m) (hb : Below W.heap.size W W') : TurnFn W' f t m := by
  obtain ⟨bt, bm, e, h1, h3⟩ := h.shape
  exact ⟨bt, bm, e, (hb.block _ (lt_of_blk h1)).trans h1, (hb.block _ (lt_of_blk h3)).trans h3⟩

/-- along, of a turn -/
theorem along_turn {W : World} {cb : Array Value} {t : Nat → Int} {m : Int} (hm : 0 < m) (h2 : m ≤ 60) (s : St)
    (h : ∀ s, OkSt m s → ∀ w', Below W.heap.size W w' → Calls Try.prog 19 (#[stv s] ++ cb) w' fun e w'' => e = .returned (stv (nx t m s)) ∧ Below w'.heap.size w' w'') :
    Calls Try.prog 10 #[stv (fst m s), .func (.func 19) #[] cb] W fun e w' => ∃ L lead a c, e = .returned (.agg #[.slice a L.length c, .int .i64 (lead : Nat)]) ∧ IsWay (nx t m) (fst m s) L lead ∧ w'.ownsRow W.heap.size 26 3 (.slice a L.length c) L.length (scells L) ∧
      Below W.heap.size W w' ∧ ∀ s ∈ L, OkSt m s :=
  along_any hm h2 (fun s _ => nx_ok hm t s) (fst_ok hm s) enters_turningF h

set_option maxRecDepth 100000 in
set_option maxHeartbeats 4000000 in
theorem turnCycle_any (t : Nat → Int) (s : St) (m : Int) (w : World) : Calls Try.prog 5 #[turnv t, stv s, .int .i64 m] w (CycOut t s m w) := by
  by_cases hm : 1 ≤ m ∧ m ≤ 60
  · have htu := fun w => turning_any t s m hm.1 hm.2 w
    have HTU := Sealed.mk htu; clear htu
    have HM := Sealed.mk hm; clear hm
    unfold turnv stv at HTU ⊢
    go_enter Try.func5, Try.ntmps5
    go_wp2_with (first
      | (go_at_call 9; go_must (refine (HTU.out _).mono ?_; rintro e w1 ⟨f, rfl, hb1, hf1⟩; obtain ⟨cb, rfl, hcb⟩ := (hf1.below (below_st (Below.refl _ _) (.cells #[.int .i64 (fst m s).1, .int .i64 (fst m s).2.1, .int .i64 (fst m s).2.2] 26))).calls (by have := HM.out.1; omega) HM.out.2; have hal := along_turn (by have := HM.out.1; omega) HM.out.2 s hcb; unfold stv at hal; have HAL := Sealed.mk hal; clear hal hf1 hcb; have HB1 := Sealed.mk hb1; clear hb1))
      | (go_at_call 10; go_must (refine HAL.out.mono ?_; rintro e w2 ⟨L, lead, a, c, rfl, hway, hown, hb, hok⟩; have hlt := hway.lt; have hfew := way_few (by have := HM.out.1; omega) HM.out.2 hway; generalize hn : L.length = n at hlt hfew ⊢; have HWY := Sealed.mk (And.intro hway (And.intro hb hn)); clear hway hb hn hown hok)))
    have hwl := fun w => wayLength_any (a := a) (n := n) (c := c) (lead := lead) (by omega) hfew w
    obtain ⟨W3, hW3⟩ : ∃ W3, W3 = w2.alloc (.cells #[.slice a n c, .int .i64 (lead : Int)] 43) := ⟨_, rfl⟩
    have y3 : W3.heap[w2.heap.size]? = some (.cells #[.slice a n c, .int .i64 (lead : Int)] 43 (0, 0)) := by rw [hW3]; exact blk_alloc _ _
    have ks : ∀ w', Ext noB W3 w' → w'.cell? ⟨w2.heap.size, 0, none⟩ = some (.slice a n c) ∧ w'.cell? ⟨w2.heap.size, 1, none⟩ = some (.int .i64 (lead : Int)) := fun w' hx => by
      have y := hx.get y3 fun e => e
      exact ⟨(cell_of_blk y 0).trans rfl, (cell_of_blk y 1).trans rfl⟩
    have HKS := Sealed.mk ks; clear ks
    have HX3 := Sealed.mk ((Ext.refl noB W3).drew)
    rw [← hW3]
    have HW3 := Sealed.mk (And.intro hW3 y3); clear hW3 y3
    go_region_held3 (fun w' => w'.cell? ⟨w2.heap.size, 0, none⟩ = some (.slice a n c) ∧ w'.cell? ⟨w2.heap.size, 1, none⟩ = some (.int .i64 (lead : Int)))
      (first | exact HKS.out _ HX3.out | exact HKS.out _ HX4.out)
      (first | (go_at_call 11; go_must (refine (hwl _).mono ?_; rintro e w4 ⟨rfl, hb4⟩; have HX4 := Sealed.mk (HX3.out.trans (Ext.of_below (M := noB) hb4) (fun _ h => h.elim)); clear hb4)))
    go_wp2_with fail
    refine bodyPost_ret (v := .tuple #[.int .i64 (lead : Int), .int .i64 ((n : Int) - (lead : Int)), .int .i64 0]) (by simp [results, Try.results5, go_sem]) rfl ?_
    obtain ⟨hway, hb, hn⟩ := HWY.out
    refine ⟨?_, .inr ⟨HM.out.1, HM.out.2, L, lead, hway, by omega, by rw [hn]⟩⟩
    have h0 : Below w.heap.size w ((w.alloc (.cells (turnCells t) 25)).alloc (.cells #[.int .i64 s.1, .int .i64 s.2.1, .int .i64 s.2.2] 26)) := by
      repeat (first | exact Below.refl _ _ | refine below_st ?_ _)
    have h1 := below_st (h0.trans (below_mono HB1.out h0.size)) (.cells #[.int .i64 (fst m s).1, .int .i64 (fst m s).2.1, .int .i64 (fst m s).2.2] 26)
    have h3 := below_st (h1.trans (below_mono hb h1.size)) (.cells #[.slice a n c, .int .i64 (lead : Int)] 43)
    rw [← HW3.out.1] at h3
    exact h3.trans (below_mono HX4.out.below h3.size)
  · have htu := fun w => turning_bad t s m (by omega) w
    have HM := Sealed.mk hm; clear hm
    unfold turnv stv at htu ⊢
    go_enter Try.func5, Try.ntmps5
    go_wp2_with (first
      | (go_at_call 9; go_must (refine (htu _).mono ?_; rintro e w1 ⟨rfl, hb1⟩)))
    refine bodyPost_ret (v := .tuple #[.int .i64 0, .int .i64 0, .int .i64 1]) (by simp [results, Try.results5, go_sem]) rfl ⟨?_, .inl ⟨HM.out, rfl⟩⟩
    have h0 : Below w.heap.size w ((w.alloc (.cells (turnCells t) 25)).alloc (.cells #[.int .i64 s.1, .int .i64 s.2.1, .int .i64 s.2.2] 26)) := by
      repeat (first | exact Below.refl _ _ | refine below_st ?_ _)
    exact below_st (h0.trans (below_mono hb1 h0.size)) _

end Go.Proofs.Ythmagdibjbadaaa
