/-
  NumSums, of seed sandreckoner: for every script, every list of int8s and every turn the call returns true and its arguments read as they read.
-/
import Derived.Test.YtgchfbfgjanaiaaRows
import Derived.Test.YtgchfbfgjanaiaaLwSumsRx01
set_option linter.unusedSimpArgs false
set_option linter.unusedVariables false
namespace Go.Proofs.Ytgchfbfgjanaiaa.numSums
open Go.ChangeShapes Go.WideShapes Go.ChangeAt Go.RowKit Sr RowK
set_option linter.unusedVariables false

theorem own : ownKnob Try.prog.godebug = none := by kernel_rfl

set_option maxRecDepth 100000 in
theorem lifted (os : Os) (started : os.Started) (H : Type) (enc : TypeId × Value → H) :
    ReturnsInHanded {} Try.checked os 11 .any (Rows.numSumsSpec.pre6 enc Try.prog Try.f11 Rows.numSumsRow.domain false) (Rows.numSumsSpec.post enc Try.prog Try.f11 false true false false) := by
  refine returnsInHanded_of_change (C := Try.checked) own started (by kernel_rfl) Try.func11
    (ChangeSpec.witness6 (enc := enc) (C := Try.checked) false ⟨#[], #[.slice none 0 0, .slice none 0 0, .int .i64 0], []⟩ 8 (by kernel_rfl) (by kernel_rfl) (by kernel_rfl) (by kernel_rfl)) ?_
  intro W base args ds gs before hval0 hW hcnd _
  have hval : ∀ (j : Nat) t v, Try.f11.params[j]? = some t → args[j]? = some v → Value.okWide Try.prog W .any base t v := hval0
  have hW' := hW
  obtain ⟨p, q, hA0, hV, rfl, hfz, hnd⟩ := hW
  have hA : DataW.TrodAll enc Try.prog W 0 (fun _ => true) true Try.f11.params.toList args.toList ds p := hA0
  rw [Try.params11] at hA hval
  obtain ⟨v0, vs0, d0, ds0, p0, q0, hargs0, rfl, rfl, h0, r0⟩ := trodAll_cons hA
  obtain ⟨v1, vs1, d1, ds1, p1, q1, hargs1, rfl, rfl, h1, r1⟩ := trodAll_cons r0
  obtain ⟨v2, vs2, d2, ds2, p2, q2, hargs2, rfl, rfl, h2, r2⟩ := trodAll_cons r1
  obtain ⟨rfl, rfl, rfl⟩ := trodAll_nil r2
  obtain rfl : args = #[v0, v1, v2] := by cases args; simp_all
  obtain ⟨rfl, rfl⟩ := trodVars_none hV
  obtain ⟨ops0, hops0⟩ := open_ops (okWide_slice Try.underlying67 (hval 0 67 v0 rfl rfl)) h0
  obtain ⟨l1, hl1⟩ := open_i8s (okWide_slice Try.underlying54 (hval 1 54 v1 rfl rfl)) h1
  obtain ⟨n2, rfl, hn2⟩ := RowK.open_int Try.underlying3 (hval 2 3 v2 rfl rfl) h2
  have hlt := hW'.lt
  clear hA0 hval0
  simp only [List.append_nil] at hW' hlt
  refine (lawSums_any hops0 hl1 hn2).mono fun e W' ⟨he, hg⟩ => ?_
  subst he
  refine ⟨_, rfl, _, _, _, [], (p0 ++ (p1 ++ (p2 ++ []))), [], hW', ?_, ?_, rfl, hg.frame _, fun h => nomatch h⟩
  · exact trodAll_cons_mk (shut_bool Try.underlying4 _) trodAll_mk0
  · exact (trodAll_cons_mk (again (by kernel_rfl) (by decide +kernel) h0 (fun p hp => hlt p (by simp [hp])) hg (fun p hp => by simpa using hlt p (by simp [hp]))) (trodAll_cons_mk (again (by kernel_rfl) (by decide +kernel) h1 (fun p hp => hlt p (by simp [hp])) hg (fun p hp => by simpa using hlt p (by simp [hp]))) (trodAll_cons_mk (again (by kernel_rfl) (by decide +kernel) h2 (fun p hp => hlt p (by simp [hp])) hg (fun p hp => by simpa using hlt p (by simp [hp]))) trodAll_mk0)))

theorem over : Rows.numSumsRow.holds Try.pinned (OpenSpec.ofChange Rows.numSumsSpec) :=
  OpenClaim.holds_of_wide 11 Try.f11 rfl rfl rfl rfl rfl rfl rfl ⟨rfl, rfl, rfl, rfl, rfl⟩ rfl rfl rfl rfl rfl (by kernel_rfl) Try.func11 (by kernel_rfl)
    (of_decide_eq_true (by kernel_rfl)) (by unfold Func.isWrapper; first | (rw [if_pos (by decide +kernel)]; kernel_rfl) | (rw [if_neg (by decide +kernel)]; exact ⟨rfl, rfl⟩))
    (fun os started H enc _ => lifted os started H enc)

/-- the given statement -/
theorem proved : Rows.NumSumsSaid := over

end Go.Proofs.Ytgchfbfgjanaiaa.numSums
