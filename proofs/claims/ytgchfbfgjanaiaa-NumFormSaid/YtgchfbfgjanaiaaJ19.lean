/- num.world.of -/
import Derived.Test.YtgchfbfgjanaiaaJ18
import Derived.Deep.LoopGhost
import Derived.Deep.DeepCutAuto
set_option linter.unusedSimpArgs false
set_option linter.unusedVariables false
namespace Go.Proofs.Ytgchfbfgjanaiaa
open Go.RowKit Sr
set_option maxRecDepth 100000 in
set_option maxHeartbeats 4000000 in
theorem of_step {U : List Int} {N : Nat} (hN : N ≤ 2 ^ 63) (hU : ∀ k : Nat, k ≤ 70 → (k : Int) ∈ U)
    (ih : ∀ e, e < N → e ≤ 70 → ∀ {w b vs}, WInv w b vs U → Calls Try.prog 58 #[.pointer (some ⟨b.p, 0, none⟩), .int .u64 (e : Int), .bool false] w (FormOut U w b vs (e : Int)))
    (minus : Bool) {w : World} {b : WB} {vs : List Int} (h : WInv w b vs U) :
    Calls Try.prog 58 #[.pointer (some ⟨b.p, 0, none⟩), .int .u64 (N : Int), .bool minus] w (FormOut U w b vs (sgn minus N)) := by
  have H := Sealed.mk h; clear h
  have HU := Sealed.mk hU; clear hU
  have HIH := Sealed.mk @ih; clear ih
  go_enter Try.func58, Try.ntmps58
  go_wp2_with fail
  go_loopg [1, 7, 8] N (fun j nv out ev wr => ∃ (e : Nat) (vs1 : List Int) (b1 : WB) (o : List T), nv = .int .u64 (j : Int) ∧ ev = .int .u64 (e : Int) ∧ e ≤ 65 ∧ j ≤ 2 ^ (64 - e) ∧ (e = 65 → j = 0) ∧ o.length ≤ e ∧
    SInv (sgn minus N) (fun _ => 0) [] (sgn minus j) e o ∧ OI U w b vs out wr vs1 b1 o)
  case atStart => exact ⟨0, vs, b, [], rfl, rfl, by omega, by simp; omega, by omega, by simp, SInv.begin _ _, OI.start H.out⟩
  case round =>
    obtain ⟨e, vs1, b1, o, rfl, rfl, he, hj, he5, hol, hs, hI⟩ := hrel
    by_cases hz : gk = 0
    · subst hz
      obtain ⟨oa, oc, rfl⟩ := own_slice hI.own
      have hrv := reverse_any hI.own (by omega)
      have HRV := Sealed.mk hrv; clear hrv
      have HI := Sealed.mk hI; clear hI
      have HS := Sealed.mk hs; clear hs
      go_wp2_with (go_at_call 94; go_must (refine HRV.out.mono ?_; rintro e w2 ⟨rfl, h2⟩))
      go_ret
      have h0 : sgn minus 0 = 0 := by cases minus <;> simp [sgn]
      have hs := HS.out
      rw [h0] at hs
      have hd := hs.done
      exact HI.out.done hd (by omega) (by simpa [tcells] using h2.1) h2.2
    · have hj0 : 0 < gk := by omega
      have he64 : e ≤ 64 := by omega
      have hjb : gk ≤ 18446744073709551616 := Nat.le_trans hj (Nat.le_trans (Nat.pow_le_pow_right (by decide) (show 64 - e ≤ 64 by omega)) (by decide))
      have HI := Sealed.mk hI; clear hI
      have HS := Sealed.mk hs; clear hs
      have HJ := Sealed.mk (And.intro hj (And.intro he5 hol)); clear hj he5 hol
      by_cases h1 : gk % 4 = 1
      · have hex : e < N := by have := of_far HS.out (by omega); rwa [sgn_abs] at this
        have hof := HIH.out e hex (by omega) HI.out.step.inv
        rw [HI.out.step.p] at hof
        have HOF := Sealed.mk hof; clear hof
        go_wp2_with (first
          | (go_at_call 58; go_must (refine HOF.out.mono ?_; rintro e' w2 ⟨vs2, b2, a2, c2, rfl, hown2, hl2, hcov2, hst2, hfs2, hnm2⟩; have hid := id_any hst2.inv (TL.of_own hown2 hl2) hcov2 (HU.out e (by omega)) hnm2; rw [hst2.p, HI.out.step.p] at hid; have HID := Sealed.mk hid; clear hid; have H2 := Sealed.mk (And.intro hown2 (And.intro hst2 hfs2)); clear hown2 hst2 hfs2 hl2 hcov2 hnm2))
          | (go_at_call 55; go_must (refine HID.out.mono ?_; rintro e'' w3 ⟨vs3, b3, rfl, hx3, hst3, hfs3⟩; have hOI := HI.out.move (H2.out.2.1.trans hst3) (H2.out.2.2.trans hfs3 H2.out.2.1.ext.size fun q hq => .inr (H2.out.1.lt q hq).1); have HOI := Sealed.mk (And.intro hOI hx3); clear hOI hst3 hfs3 hx3; obtain ⟨idx, hidx⟩ : ∃ idx : Nat, idx = vs3.idxOf (e : Int) := ⟨_, rfl⟩; rw [← hidx]; have HIDX := Sealed.mk hidx; clear hidx))
          | (at_builtin; go_must (refine ap_lit (m := 1) el_term (.tmp 17) (.tmp 25) rfl rfl rfl HOI.out.1.own rfl (by simp) rfl ?g1 ?g2 ?g3 ?g4)))
        case g1 => simp [Value.oneCell']
        case g2 => have := HJ.out.2.2; omega
        case g3 => exact HOI.out.1.step.ext.size
        case g4 =>
          intro v' w4 hown4 hgrow4 hnew4
          have hOI := HOI.out.1.push hgrow4 hnew4 HOI.out.2 (m := minus) (by rw [← HIDX.out]; exact hown4)
          have HOI4 := Sealed.mk hOI; clear hOI hown4 hgrow4 hnew4
          go_wp2_with fail
          go_roundg ((gk - 1) / 2)
          case measure => omega
          case rel =>
            have hj := HJ.out
            have hp : 1 ≤ 2 ^ (64 - (e + 1)) := Nat.one_le_two_pow
            refine ⟨e + 1, vs3, b3, _, ?_, by push_cast; rfl, by omega, ?_, ?_, by simp; omega, of_one HS.out h1, HOI4.out⟩
            · first | (congr 1; done) | (congr 1; omega)
            · by_cases h64 : e = 64
              · subst h64; have := hj.1; simp at this; omega
              · have := pow_half (show e ≤ 63 by omega) hj.1
                have h5 : gk = 2 * 2 ^ (64 - (e + 1)) → False := fun h => by omega
                omega
            · intro h65
              obtain rfl : e = 64 := by omega
              have := hj.1; simp at this; omega
      · by_cases h3 : gk % 4 = 3
        · have hex : e < N := by have := of_far HS.out (by omega); rwa [sgn_abs] at this
          have hof := HIH.out e hex (by omega) HI.out.step.inv
          rw [HI.out.step.p] at hof
          have HOF := Sealed.mk hof; clear hof
          go_wp2_with (first
            | (go_at_call 58; go_must (refine HOF.out.mono ?_; rintro e' w2 ⟨vs2, b2, a2, c2, rfl, hown2, hl2, hcov2, hst2, hfs2, hnm2⟩; have hid := id_any hst2.inv (TL.of_own hown2 hl2) hcov2 (HU.out e (by omega)) hnm2; rw [hst2.p, HI.out.step.p] at hid; have HID := Sealed.mk hid; clear hid; have H2 := Sealed.mk (And.intro hown2 (And.intro hst2 hfs2)); clear hown2 hst2 hfs2 hl2 hcov2 hnm2))
            | (go_at_call 55; go_must (refine HID.out.mono ?_; rintro e'' w3 ⟨vs3, b3, rfl, hx3, hst3, hfs3⟩; have hOI := HI.out.move (H2.out.2.1.trans hst3) (H2.out.2.2.trans hfs3 H2.out.2.1.ext.size fun q hq => .inr (H2.out.1.lt q hq).1); have HOI := Sealed.mk (And.intro hOI hx3); clear hOI hst3 hfs3 hx3; obtain ⟨idx, hidx⟩ : ∃ idx : Nat, idx = vs3.idxOf (e : Int) := ⟨_, rfl⟩; rw [← hidx]; have HIDX := Sealed.mk hidx; clear hidx))
            | (at_builtin; go_must (refine ap_lit (m := 1) el_term (.tmp 31) (.tmp 40) rfl rfl rfl HOI.out.1.own rfl (by simp) rfl ?g1 ?g2 ?g3 ?g4)))
          case g1 => simp [Value.oneCell']
          case g2 => have := HJ.out.2.2; omega
          case g3 => exact HOI.out.1.step.ext.size
          case g4 =>
            intro v' w4 hown4 hgrow4 hnew4
            have hOI := HOI.out.1.push hgrow4 hnew4 HOI.out.2 (m := !minus) (by rw [← HIDX.out]; exact hown4)
            have HOI4 := Sealed.mk hOI; clear hOI hown4 hgrow4 hnew4
            go_wp2_with fail
            go_roundg (gk / 2 + 1)
            case measure => omega
            case rel =>
              have hj := HJ.out
              have hp : 1 ≤ 2 ^ (64 - (e + 1)) := Nat.one_le_two_pow
              refine ⟨e + 1, vs3, b3, _, ?_, by push_cast; rfl, by omega, ?_, ?_, by simp; omega, of_three HS.out h3, HOI4.out⟩
              · first | (congr 1; done) | (congr 1; omega)
              · by_cases h64 : e = 64
                · subst h64; have := hj.1; simp at this; omega
                · have := pow_half (show e ≤ 63 by omega) hj.1
                  have h5 : gk = 2 * 2 ^ (64 - (e + 1)) → False := fun h => by omega
                  omega
              · intro h65
                obtain rfl : e = 64 := by omega
                have := hj.1; simp at this; omega
        · go_wp2_with fail
          go_roundg (gk / 2)
          case measure => omega
          case rel =>
            have hj := HJ.out
            refine ⟨e + 1, vs1, b1, o, ?_, by push_cast; rfl, by omega, ?_, ?_, by omega, of_even HS.out hz (by omega), HI.out⟩
            · congr 1
            · by_cases h64 : e = 64
              · subst h64; have := hj.1; simp at this; omega
              · have := pow_half (show e ≤ 63 by omega) hj.1
                omega
            · intro h65
              obtain rfl : e = 64 := by omega
              have := hj.1; simp at this; omega
theorem of_any {U : List Int} (hU : ∀ k : Nat, k ≤ 70 → (k : Int) ∈ U) (n : Nat) : ∀ {N : Nat}, N < n → N ≤ 2 ^ 63 → ∀ (minus : Bool) {w b vs}, WInv w b vs U →
    Calls Try.prog 58 #[.pointer (some ⟨b.p, 0, none⟩), .int .u64 (N : Int), .bool minus] w (FormOut U w b vs (sgn minus N)) := by
  induction n with
  | zero => intro N h; omega
  | succ n ih =>
    intro N hn hN minus w b vs h
    exact of_step hN hU (fun e he he2 _ _ _ hw => ih (by omega) (by omega) false hw) minus h
end Go.Proofs.Ytgchfbfgjanaiaa
