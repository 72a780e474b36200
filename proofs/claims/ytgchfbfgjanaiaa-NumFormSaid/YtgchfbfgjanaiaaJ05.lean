/- num.world.cmp, differ, compared -/
import Derived.Test.YtgchfbfgjanaiaaJ04
import Derived.StillTailTactics
set_option linter.unusedSimpArgs false
set_option linter.unusedVariables false
namespace Go.Proofs.Ytgchfbfgjanaiaa
open Go.RowKit Sr
theorem one_any (m : Bool) (k : Int) (w : World) : Calls Try.prog 107 #[.agg #[.bool m, .int .i64 k]] w fun e w' => e = .returned (.int .i64 (one m)) ∧ Below w.heap.size w w' := by
  cases m
  · go_enter Try.func107, Try.ntmps107
    go_wp2
    go_ret
    exact ⟨rfl, (Below.refl _ _).alloc (Nat.le_refl _) _⟩
  · go_enter Try.func107, Try.ntmps107
    go_wp2
    go_ret
    exact ⟨rfl, (Below.refl _ _).alloc (Nat.le_refl _) _⟩
structure CS (w w' : World) (b : WB) (vs U : List Int) : Prop where
  inv : WInv w' b vs U
  ext : Ext (fun k => k = b.r3) w w'
theorem CS.trans {w w1 w2 : World} {b : WB} {vs U : List Int} (h : CS w w1 b vs U) (k : CS w1 w2 b vs U) : CS w w2 b vs U := ⟨k.inv, h.ext.same k.ext⟩
theorem CS.refl {w : World} {b : WB} {vs U : List Int} (h : WInv w b vs U) : CS w w b vs U := ⟨h, Ext.refl _ _⟩
theorem CS.below {w w1 w2 : World} {b : WB} {vs U : List Int} (h : CS w w1 b vs U) (k : Below w1.heap.size w1 w2) : CS w w2 b vs U :=
  ⟨h.inv.below k, h.ext.trans (N := noB) (Ext.of_below k) fun _ hb => hb.elim⟩
theorem CS.cell {w w1 : World} {b : WB} {vs U : List Int} (h : CS w w1 b vs U) {k i : Nat} {v : Value} (hc : w.cell? ⟨k, i, none⟩ = some v) (hk : k ≠ b.r3) : w1.cell? ⟨k, i, none⟩ = some v :=
  (cell_same (h.ext.block k (lt_of_cell hc) hk) i).trans hc
theorem CS.step {w w' : World} {b : WB} {vs U : List Int} (h : CS w w' b vs U) : WStep U w w' b b vs vs :=
  ⟨h.inv, List.prefix_refl _, h.ext.imp fun k hk => .inl (.inr (.inr (.inr (.inr hk)))), rfl, rfl, rfl, rfl, .inl rfl⟩
def decideT (s t : Bool × Nat) (hasX hasY : Bool) (c : Int) : Int :=
  if hasX = false then -one t.1 else if hasY = false ∨ s.1 ≠ t.1 then one s.1 else one s.1 * c
set_option maxRecDepth 100000 in
theorem differ_any {w : World} {b : WB} {vs U : List Int} (h : WInv w b vs U) (s t : Bool × Nat) (hasX hasY : Bool) (c : Int) (hc1 : -1 ≤ c ∧ c ≤ 1)
    (hcmp : hasX = true → hasY = true → ∀ w1, WInv w1 b vs U → Calls Try.prog 78 #[.pointer (some ⟨b.p, 0, none⟩), .int .i64 (s.2 : Int), .int .i64 (t.2 : Int)] w1 fun e w' => e = .returned (.int .i64 c) ∧ CS w1 w' b vs U) :
    Calls Try.prog 102 #[.pointer (some ⟨b.p, 0, none⟩), .agg #[.bool s.1, .int .i64 (s.2 : Int)], .agg #[.bool t.1, .int .i64 (t.2 : Int)], .bool hasX, .bool hasY] w
      fun e w' => e = .returned (.int .i64 (decideT s t hasX hasY c)) ∧ CS w w' b vs U := by
  obtain ⟨m1, n1⟩ := s
  obtain ⟨m2, n2⟩ := t
  have H := Sealed.mk h; clear h
  have hb2 : ∀ o1 o2 : Obj, CS w ((w.alloc o1).alloc o2) b vs U := fun o1 o2 => (CS.refl H.out).below (((Below.refl _ _).alloc (Nat.le_refl _) _).alloc (by simp) _)
  have HB := Sealed.mk hb2; clear hb2
  cases hasX
  · clear hcmp
    go_enter Try.func102, Try.ntmps102
    go_wp2_with (go_at_call 107; go_must (refine (one_any _ _ _).mono ?_; rintro e w1 ⟨rfl, hb⟩))
    go_ret
    refine ⟨?_, (HB.out _ _).below hb⟩
    cases m2
    · simp [decideT, one, wrap64]
    · simp [decideT, one, wrap64]
  · cases hasY
    · clear hcmp
      go_enter Try.func102, Try.ntmps102
      go_wp2_with (go_at_call 107; go_must (refine (one_any _ _ _).mono ?_; rintro e w1 ⟨rfl, hb⟩))
      go_ret
      exact ⟨by simp [decideT], (HB.out _ _).below hb⟩
    · by_cases hm : m1 = m2
      · subst hm
        have HC := Sealed.mk (hcmp rfl rfl); clear hcmp
        have hmm : (m1 != m1) = false := by simp
        have hr3 := H.out.lt b.r3 (.inr (.inr (.inr (.inr rfl))))
        have hone : one m1 = 1 ∨ one m1 = -1 := by cases m1 <;> simp [one]
        have HONE := Sealed.mk hone; clear hone
        go_enter Try.func102, Try.ntmps102
        go_wp2_with fail
        obtain ⟨W, hW⟩ : ∃ W, W = (w.alloc (.cells #[.bool m1, .int .i64 (n1 : Int)] 98)).alloc (.cells #[.bool m1, .int .i64 (n2 : Int)] 98) := ⟨_, rfl⟩
        have hcs : CS w W b vs U := by rw [hW]; exact HB.out _ _
        have e1 : W.heap[w.heap.size]? = some (.cells #[.bool m1, .int .i64 (n1 : Int)] 98 (0, 0)) := by rw [hW]; exact blk_alloc_old (blk_alloc _ _) _
        have e2 : W.heap[w.heap.size + 1]? = some (.cells #[.bool m1, .int .i64 (n2 : Int)] 98 (0, 0)) := by rw [hW]; simpa using blk_alloc (w.alloc (.cells #[.bool m1, .int .i64 (n1 : Int)] 98)) (.cells #[.bool m1, .int .i64 (n2 : Int)] 98)
        rw [← hW]
        have c1 : W.cell? ⟨w.heap.size, 0, none⟩ = some (.bool m1) := by rw [cell_of_blk e1]; rfl
        have c2 : W.cell? ⟨w.heap.size, 1, none⟩ = some (.int .i64 (n1 : Int)) := by rw [cell_of_blk e1]; rfl
        have c3 : W.cell? ⟨w.heap.size + 1, 1, none⟩ = some (.int .i64 (n2 : Int)) := by rw [cell_of_blk e2]; rfl
        have hself : CS W W.drew b vs U := ⟨hcs.inv.ext (N := noB) ((Ext.refl _ _).drew) fun _ hn _ => hn, (Ext.refl _ _).drew⟩
        have k1 : ∀ w1 w2 : World, (w1.cell? ⟨w.heap.size, 0, none⟩ = some (.bool m1) ∧ w1.cell? ⟨w.heap.size, 1, none⟩ = some (.int .i64 (n1 : Int)) ∧ w1.cell? ⟨w.heap.size + 1, 1, none⟩ = some (.int .i64 (n2 : Int)) ∧ CS W w1 b vs U) → CS w1 w2 b vs U → (w2.cell? ⟨w.heap.size, 0, none⟩ = some (.bool m1) ∧ w2.cell? ⟨w.heap.size, 1, none⟩ = some (.int .i64 (n1 : Int)) ∧ w2.cell? ⟨w.heap.size + 1, 1, none⟩ = some (.int .i64 (n2 : Int)) ∧ CS W w2 b vs U) := fun w1 w2 h k =>
          ⟨k.cell h.1 (by omega), k.cell h.2.1 (by omega), k.cell h.2.2.1 (by omega), h.2.2.2.trans k⟩
        have K1 := Sealed.mk k1; clear k1
        have HSELF := Sealed.mk hself; clear hself
        clear hW e1 e2
        have HCS := Sealed.mk hcs; clear hcs
        go_region_held3 (fun w' => w'.cell? ⟨w.heap.size, 0, none⟩ = some (.bool m1) ∧ w'.cell? ⟨w.heap.size, 1, none⟩ = some (.int .i64 (n1 : Int)) ∧ w'.cell? ⟨w.heap.size + 1, 1, none⟩ = some (.int .i64 (n2 : Int)) ∧ CS W w' b vs U)
          (first | exact ⟨c1, c2, c3, HSELF.out⟩ | exact K1.out _ _ (by assumption) (by assumption) | exact K1.out _ _ (by assumption) ((CS.refl (by assumption : _ ∧ _ ∧ _ ∧ CS _ _ _ _ _).2.2.2.inv).below (by assumption)))
          (first | (go_at_call 107; go_must (refine (one_any _ _ _).mono ?_; rintro e w1 ⟨rfl, hb⟩)) | (go_at_call 78; go_must (refine (HC.out _ ?_).mono ?_; exact (by assumption : _ ∧ _ ∧ _ ∧ CS _ _ b vs U).2.2.2.inv; rintro e w1 ⟨rfl, hb⟩)))
        go_wp2
        go_ret
        refine ⟨?_, HCS.out.trans (by assumption : _ ∧ _ ∧ _ ∧ CS _ _ b vs U).2.2.2⟩
        have hone := HONE.out
        have e1 : decideT (m1, n1) (m1, n2) true true c = one m1 * c := by simp [decideT]
        have e2 : IntKind.i64.wrap (one m1 * c) = one m1 * c := by
          rw [IntKind.wrap_i64]; rcases hone with h1 | h1 <;> rw [h1] <;> omega
        show Ending.returned (.int .i64 (IntKind.i64.wrap (one m1 * c))) = _
        rw [e1, e2]
      · clear hcmp
        cases m1 <;> cases m2
        · exact absurd rfl hm
        · go_enter Try.func102, Try.ntmps102
          go_wp2_with (go_at_call 107; go_must (refine (one_any _ _ _).mono ?_; rintro e w1 ⟨rfl, hb⟩))
          go_ret
          exact ⟨by simp [decideT], (HB.out _ _).below hb⟩
        · go_enter Try.func102, Try.ntmps102
          go_wp2_with (go_at_call 107; go_must (refine (one_any _ _ _).mono ?_; rintro e w1 ⟨rfl, hb⟩))
          go_ret
          exact ⟨by simp [decideT], (HB.out _ _).below hb⟩
        · exact absurd rfl hm
end Go.Proofs.Ytgchfbfgjanaiaa
