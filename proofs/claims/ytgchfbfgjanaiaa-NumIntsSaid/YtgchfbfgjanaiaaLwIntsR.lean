/-
  NumInts, of seed sandreckoner: for every two int64s the call returns true and its arguments read as they read.
-/
import Derived.Test.YtgchfbfgjanaiaaRows
import Derived.Test.YtgchfbfgjanaiaaLwIntsRx01
import Derived.ProofKit
import Derived.OpenShut
set_option linter.unusedSimpArgs false
set_option linter.unusedVariables false
namespace Go.Proofs.Ytgchfbfgjanaiaa.numInts
open Go.ChangeShapes Go.WideShapes Go.ChangeAt Go.RowKit Sr
set_option linter.unusedVariables false

theorem own : ownKnob Try.prog.godebug = none := by kernel_rfl

theorem wf64 {n : Int} (h : (Lit.int .i64 n).wf = true) : Is64 n := by
  have := h
  simp [Lit.wf, go_sem] at this
  exact this

theorem one_cell {v : Value} {u : Value} (h : v.cells.toList = [u]) (hu : u.oneCell' = true) : True := trivial

set_option maxRecDepth 100000 in
theorem lifted (os : Os) (started : os.Started) (H : Type) (enc : TypeId × Value → H) :
    ReturnsInHanded {} Try.checked os 13 .any (Rows.numIntsSpec.pre6 enc Try.prog Try.f13 Rows.numIntsRow.domain false) (Rows.numIntsSpec.post enc Try.prog Try.f13 false true false false) := by
  refine returnsInHanded_of_change (C := Try.checked) own started (by kernel_rfl) Try.func13
    (ChangeSpec.witness6 (enc := enc) (C := Try.checked) false ⟨#[], #[.int .i64 0, .int .i64 0], []⟩ 8 (by kernel_rfl) (by kernel_rfl) (by kernel_rfl) (by kernel_rfl)) ?_
  intro W base args ds gs before hval0 hW hcnd _
  have hval : ∀ (j : Nat) t v, Try.f13.params[j]? = some t → args[j]? = some v → Value.okWide Try.prog W .any base t v := hval0
  have hW' := hW
  obtain ⟨p, q, hA0, hV, rfl, hfz, hnd⟩ := hW
  have hA : DataW.TrodAll enc Try.prog W 0 (fun _ => true) true Try.f13.params.toList args.toList ds p := hA0
  rw [Try.params13] at hA hval
  obtain ⟨v0, vs0, d0, ds0, p0, q0, hargs, rfl, rfl, h0, r0⟩ := trodAll_cons hA
  obtain ⟨v1, vs1, d1, ds1, p1, q1, hargs1, rfl, rfl, h1, r1⟩ := trodAll_cons r0
  obtain ⟨rfl, rfl, rfl⟩ := trodAll_nil r1
  obtain rfl : args = #[v0, v1] := by cases args; simp_all
  obtain ⟨rfl, rfl⟩ := trodVars_none hV
  obtain ⟨a, rfl⟩ := okWide_int Try.underlying2 (hval 0 2 v0 rfl rfl)
  obtain ⟨b, rfl⟩ := okWide_int Try.underlying2 (hval 1 2 v1 rfl rfl)
  obtain ⟨fuel0, ht0⟩ := h0
  obtain ⟨fuel1, ht1⟩ := h1
  obtain ⟨a', e0, ex0, hw0⟩ := DataW.trod_int Try.underlying2 ht0
  obtain ⟨b', e1, ex1, hw1⟩ := DataW.trod_int Try.underlying2 ht1
  obtain ⟨rfl, rfl⟩ := Prod.mk.inj ex0
  obtain ⟨rfl, rfl⟩ := Prod.mk.inj ex1
  obtain rfl : a = a' := by simpa [Value.cells] using e0
  obtain rfl : b = b' := by simpa [Value.cells] using e1
  clear hA0 hval0
  simp only [List.append_nil] at hW'
  refine (lawInts_any (wf64 hw0) (wf64 hw1) W).mono fun e W' ⟨he, hg⟩ => ?_
  subst he
  refine ⟨_, rfl, _, _, [], [], [], [], hW', ?_, ?_, rfl, hg.frame _, fun h => nomatch h⟩
  · exact trodAll_cons_mk (shut_bool Try.underlying4 _) trodAll_mk0
  · exact trodAll_cons_mk (shut_int Try.underlying2 hw0) (trodAll_cons_mk (shut_int Try.underlying2 hw1) trodAll_mk0)

theorem over : Rows.numIntsRow.holds Try.pinned (OpenSpec.ofChange Rows.numIntsSpec) :=
  OpenClaim.holds_of_wide 13 Try.f13 rfl rfl rfl rfl rfl rfl rfl ⟨rfl, rfl, rfl, rfl, rfl⟩ rfl rfl rfl rfl rfl (by kernel_rfl) Try.func13 (by kernel_rfl)
    (of_decide_eq_true (by kernel_rfl)) (by unfold Func.isWrapper; first | (rw [if_pos (by decide +kernel)]; kernel_rfl) | (rw [if_neg (by decide +kernel)]; exact ⟨rfl, rfl⟩))
    (fun os started H enc _ => lifted os started H enc)

/-- the given statement -/
theorem proved : Rows.NumIntsSaid := over

end Go.Proofs.Ytgchfbfgjanaiaa.numInts
