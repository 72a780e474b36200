/- num.world.shifted: the walk -/
import Derived.Test.YtgchfbfgjanaiaaJ24
set_option linter.unusedSimpArgs false
set_option linter.unusedVariables false
namespace Go.Proofs.Ytgchfbfgjanaiaa
open Go.RowKit Sr
theorem below_chain {w w1 w2 : World} (h : Below w.heap.size w w1) (k : Below w1.heap.size w1 w2) : Below w.heap.size w w2 :=
  h.trans ⟨k.os, k.tape, k.output, k.size, fun q hq => k.block q (by have := h.size; omega)⟩
set_option maxRecDepth 100000 in
set_option maxHeartbeats 4000000 in
theorem shifted_any {w : World} {b : WB} {vs U : List Int} (h : WInv w b vs U) {v : Value} {x y : Int} (hl : TL w v (enc vs x)) (hc : Cov vs x) (hy : y ∈ vs) (hlx : (form x).length ≤ 300) (hly : (form y).length ≤ 300)
    (hle : ∀ e ∈ exps x, (form (e : Int)).length ≤ 300) (hU : ∀ e ∈ exps x, 0 ≤ (e : Int) + y → (e : Int) + y ∈ U) (hN : ∀ e ∈ exps x, ∀ p, SumAt (form (e : Int) ++ form y) p → NextIn U p) :
    Calls Try.prog 70 #[.pointer (some ⟨b.p, 0, none⟩), v, .int .i64 (vs.idxOf y : Nat)] w (ShOut U w b vs x y) := by
  have hcl := clone_any hl
  obtain ⟨n, hn⟩ : ∃ n, n = (form x).length := ⟨_, rfl⟩
  have hen : (enc vs x).length = n := by rw [hn]; simp [enc]
  rw [hen] at hcl
  have hn3 : n ≤ 300 := by rw [hn]; exact hlx
  have HCL := Sealed.mk hcl; clear hcl hl
  have HN := Sealed.mk hn; clear hn
  have H := Sealed.mk h; clear h
  have HV := Sealed.mk (And.intro hc (And.intro hy (And.intro hlx (And.intro hly (And.intro hle (And.intro hU hN)))))); clear hc hy hlx hly hle hU hN
  obtain ⟨jy, hjy⟩ : ∃ jy, jy = vs.idxOf y := ⟨_, rfl⟩
  rw [← hjy]
  have HJ := Sealed.mk hjy; clear hjy
  clear hen
  go_enter Try.func70, Try.ntmps70
  go_wp2_with (go_at_call 93; go_must (refine HCL.out.mono ?_; rintro e w1 ⟨a1, c1, rfl, hown, hb⟩))
  have HO1 := Sealed.mk hown; clear hown
  go_loopg [15] n (fun j i wr => ∃ (k : Nat) (vs1 : List Int) (b1 : WB), j = n - k ∧ k ≤ n ∧ i = .int .i64 (k : Int) ∧ SH U w b vs x y k (.slice a1 n c1) wr vs1 b1)
  case atStart => exact ⟨0, vs, b, rfl, Nat.zero_le _, rfl, SH.start H.out hb HV.out.1 (by rw [← HN.out]; exact HO1.out)⟩
  case round =>
    obtain ⟨k, vs1, b1, rfl, hk, rfl, hsh⟩ := hrel
    by_cases hkl : k < n
    · obtain ⟨t, ht⟩ : ∃ t, (form x)[k]? = some t := ⟨_, List.getElem?_eq_getElem (by rw [← HN.out]; exact hkl)⟩
      have hown := hsh.own
      rw [← HN.out] at hown
      obtain ⟨g, cap, e1⟩ := own_form hown (by omega)
      obtain ⟨rfl, _, rfl⟩ := Value.slice.inj e1
      have htz := shT_at (y := y) ht
      have hte : (encL vs1 (shT (form x) y k))[k]? = some (t.1, vs1.idxOf (t.2 : Int)) := by unfold encL; rw [List.getElem?_map, htz]; rfl
      obtain ⟨d0, d1⟩ := tcells_at _ k _ hte
      have h0 := own_cell hown (b := g) rfl d0
      have h1 := own_cell hown (b := g) rfl d1
      clear d0 d1
      obtain ⟨m, e⟩ := t
      simp only at h0 h1 hte
      have hex : e ∈ exps x := mem_exps.2 ⟨_, List.mem_of_getElem? ht, rfl⟩
      have hst := hsh.oi.step
      have hev : (e : Int) ∈ vs1 := hst.pre.subset (HV.out.1 _ (List.mem_of_getElem? ht))
      have hyv : y ∈ vs1 := hst.pre.subset HV.out.2.1
      have hjy1 : jy = vs1.idxOf y := by rw [HJ.out, idxOf_prefix hst.pre HV.out.2.1]
      obtain ⟨i, hi⟩ : ∃ i, i = vs1.idxOf (e : Int) := ⟨_, rfl⟩
      rw [← hi] at h1
      have hi' : vs1[i]? = some (e : Int) := by rw [hi]; exact idxOf_get hev
      have hj' : vs1[jy]? = some y := by rw [hjy1]; exact idxOf_get hyv
      obtain ⟨W1, hW1⟩ : ∃ W1, W1 = wr.alloc (.cells #[.bool m, .int .i64 (i : Int)] 98) := ⟨_, rfl⟩
      have bw1 : Below wr.heap.size wr W1 := by rw [hW1]; exact (Below.refl _ _).alloc (Nat.le_refl _) _
      have kb : W1.heap[wr.heap.size]? = some (.cells #[.bool m, .int .i64 (i : Int)] 98 (0, 0)) := by rw [hW1]; exact blk_alloc _ _
      have k1 : W1.drew.cell? ⟨wr.heap.size, 1, none⟩ = some (.int .i64 (i : Int)) := (cell_of_blk (show W1.drew.heap[wr.heap.size]? = _ from kb) 1).trans rfl
      have hinv1 := hst.inv.below bw1
      obtain ⟨nv, hnv⟩ : ∃ nv, nv = vs1.length := ⟨_, rfl⟩
      have hil : i < nv := by rw [hnv]; exact (List.getElem?_eq_some_iff.1 hi').1
      have hjl : jy < nv := by rw [hnv]; exact (List.getElem?_eq_some_iff.1 hj').1
      obtain ⟨cap, cur, f1, f2, f3, f4, f5, f6⟩ := hinv1.forms
      obtain ⟨va, g1, t1, o1⟩ := f6 i _ hi'
      obtain ⟨vb, g2, t2, o2⟩ := f6 jy y hj'
      have c0 : W1.drew.cell? ⟨b.p, 0, none⟩ = some (.slice (some ⟨b1.f, 0, none⟩) nv cap) := by rw [← hst.p, hnv]; exact (cell_of_blk f1 0).trans rfl
      have c1 : W1.drew.cell? ⟨b1.f, i, none⟩ = some va := (cell_of_blk f2 i).trans g1
      have c2 : W1.drew.cell? ⟨b1.f, jy, none⟩ = some vb := (cell_of_blk f2 jy).trans g2
      have bd : Below W1.heap.size W1 (W1.drew.alloc (.cells #[va, vb] 96)) := by
        have := (Below.refl W1.heap.size W1).alloc (Nat.le_refl _) (.cells #[va, vb] 96)
        exact ⟨this.os, this.tape, this.output, this.size, this.block⟩
      have hcc := concat_two (w := W1.drew.alloc (.cells #[va, vb] 96)) (bs := W1.heap.size) (blk_alloc W1.drew _) (t1.below bd) (t2.below bd)
      have HCC := Sealed.mk hcc; clear hcc
      obtain ⟨aa, na, ca, eva⟩ := t1.slice
      obtain ⟨ab, nb, cb, evb⟩ := t2.slice
      subst eva
      subst evb
      have hlx : (enc vs1 (e : Int)).length ≤ 300 := by have := HV.out.2.2.2.2.1 e hex; simpa [enc] using this
      have hly : (enc vs1 y).length ≤ 300 := by have := HV.out.2.2.2.1; simpa [enc] using this
      have HS := Sealed.mk (And.intro hsh (And.intro ht (And.intro hex (And.intro hev (And.intro hyv (And.intro hinv1 (And.intro bd (And.intro bw1 (And.intro hlx (And.intro hly hown))))))))))
      clear hsh ht hex hev hyv hinv1 bd bw1 hlx hly hown htz hte e1 hi hi' hj' hjy1 hst kb hnv f1 f2 f3 f4 f5 f6 g1 g2 t1 t2 o1 o2
      have hiz : (0 : Int) ≤ (i : Int) := by omega
      have hjz : (0 : Int) ≤ (jy : Int) := by omega
      go_upto_region 5 with fail
      rw [← hW1]
      have HW1 := Sealed.mk hW1; clear hW1
      go_cut [10] (fun v10 wx => ∃ w7, Below W1.heap.size W1 w7 ∧ FormOut U w7 b1 vs1 ((e : Int) + y) (.returned v10) wx)
      case first =>
        go_region_law
          (first
            | (go_simp; go_at_call 76; go_must (refine HCC.out.mono ?_; rintro e7 w7 ⟨a7, c7, rfl, hown7, hb7⟩; have hsm := sum_two' HS.out.2.2.2.2.2.1 HS.out.2.2.2.2.2.2.1 hb7 hown7 HS.out.2.2.2.2.2.2.2.2.1 HS.out.2.2.2.2.2.2.2.2.2.1 HS.out.2.2.2.1 HS.out.2.2.2.2.1 (HV.out.2.2.2.2.2.2 _ HS.out.2.2.1); rw [HS.out.1.oi.step.p] at hsm; have HSM := Sealed.mk hsm; have HB7 := Sealed.mk hb7; clear hsm hown7 hb7); try go_simp)
            | (go_simp; go_at_call 73; go_must (refine HSM.out.mono ?_; intro e8 w8 h8; have h8' := h8; obtain ⟨vs3, b3, a8, c8, rfl, -⟩ := h8'; have HS8 := Sealed.mk h8; clear h8); try go_simp))
        all_goals
          go_wp2_with fail
          go_meet
          exact ⟨w7, below_chain HS.out.2.2.2.2.2.2.1 HB7.out, HS8.out⟩
      case rest =>
        obtain ⟨w7, b17, h8⟩ := hcut
        obtain ⟨vs3, b3, a8, c8, e8, ho8, hl8, hc8, hs8, hf8, hm8⟩ := h8
        obtain rfl := Ending.returned.inj e8
        obtain ⟨n8, hn8⟩ : ∃ n8, n8 = (enc vs3 ((e : Int) + y)).length := ⟨_, rfl⟩
        have htl8 := TL.of_own ho8 hl8
        have bwr7 : Below wr.heap.size wr w7 := below_chain HS.out.2.2.2.2.2.2.2.1 b17
        have hfl := HS.out.1.oi.step.inv.lt _ (.inr (.inl rfl))
        have hs18 : WStep U wr wc b1 b3 vs1 vs3 := (WStep.kept HS.out.1.oi.step.inv bwr7).trans hs8
        have hf18 : FStep noB wr wc b1 b3 vs1 vs3 := (FStep.same (X := noB) (Ext.of_below (M := noB) bwr7) hfl (fun e => e)).trans hf8 bwr7.size (fun _ e => e.elim)
        have hsg := sign_any htl8
        rw [sgnT_enc] at hsg
        have hid := fun hU => id_any hs8.inv htl8 hc8 hU hm8
        rw [hs18.p, HS.out.1.oi.step.p] at hid
        have hcz := HS.out.1.oi.step.p
        rw [← hn8] at ho8 hsg hid ⊢
        have HSG := Sealed.mk hsg; clear hsg
        have H8 := Sealed.mk (And.intro hs18 (And.intro hf18 (And.intro ho8 (And.intro hid (And.intro bwr7 hcz))))); clear hs18 hf18 ho8 hid bwr7 hcz htl8 hn8 hl8 hc8 hs8 hf8 hm8 e8 hfl b17 c0 c1 c2 k1 h0 h1
        by_cases hneg : (e : Int) + y < 0
        · have hd : sg ((e : Int) + y) = -1 := by unfold sg; rw [if_pos hneg]
          rw [hd] at HSG
          have HNEG := Sealed.mk hneg; clear hneg hd
          go_wp2_with (go_at_call 83; go_must (refine HSG.out.mono ?_; rintro e9 w9 ⟨rfl, rfl⟩))
          refine bodyPost_ret (v := .tuple #[.slice none 0 0, .bool false]) (by simp [results, Try.results70, go_sem]) rfl ?_
          have hm := HS.out.1.oi.move H8.out.1 H8.out.2.1
          exact ⟨vs3, b3, hm.step, hm.fstep, .inr ⟨fun hw => by have := hw _ (List.mem_of_getElem? HS.out.2.1); have := HNEG.out; simp only at *; omega, rfl⟩⟩
        · have hd : ∃ d : Int, 0 ≤ d ∧ sg ((e : Int) + y) = d := by unfold sg; rw [if_neg hneg]; split <;> exact ⟨_, by decide, rfl⟩
          obtain ⟨d, hd0, hd⟩ := hd
          rw [hd] at HSG
          have hid := H8.out.2.2.2.1 (HV.out.2.2.2.2.2.1 e HS.out.2.2.1 (by omega))
          have HID := Sealed.mk hid; clear hid
          have HNEG := Sealed.mk (And.intro hneg hd); clear hneg hd
          go_wp2_with (first
            | (go_at_call 83; go_must (refine HSG.out.mono ?_; rintro e9 w9 ⟨rfl, rfl⟩))
            | (go_at_call 55; go_must (refine HID.out.mono ?_; rintro e9 w9 ⟨vs9, b9, rfl, hx9, hs9, hf9⟩; have hoi9 := HS.out.1.oi.move (H8.out.1.trans hs9) (H8.out.2.1.trans hf9 H8.out.1.ext.size (fun q hq => .inr (by have h1 := own_ge H8.out.2.2.1 q hq; have h2 := H8.out.2.2.2.2.1.size; omega))); have hown9 := hoi9.own; rw [List.reverse_reverse, List.length_reverse, shT_length, ← HN.out] at hown9; have f9 := own_free hown9 (b := g) rfl (k * 2 + 1); have d9 := own_cell hown9 (b := g) rfl (tcells_at _ k _ (by unfold encL; rw [List.getElem?_map, shT_at HS.out.2.1]; rfl)).2; obtain ⟨ix, hix⟩ : ∃ ix, ix = vs9.idxOf ((e : Int) + y) := ⟨_, rfl⟩; rw [← hix]; have H9 := Sealed.mk (And.intro hoi9 (And.intro hown9 (And.intro hx9 hix))); clear hoi9 hown9 hx9 hix hs9 hf9)))
          go_roundg (n - (k + 1))
          case measure => omega
          case rel => exact ⟨k + 1, vs9, b9, rfl, by omega, by push_cast; rfl, HS.out.1.put HS.out.2.1 (by have := HNEG.out.1; omega) H9.out.1 H9.out.2.2.1 H9.out.2.2.2 (by rw [← HN.out]; exact hkl)⟩
    · have hkk : k = n := by omega
      have hgot := hsh.got
      have hown := hsh.own
      rw [hkk, HN.out] at hown
      rw [hkk, HN.out, List.take_length] at hgot
      obtain ⟨hwh, hen⟩ := shl_enc hgot
      rw [hen] at hown
      have hcov : Cov vs1 (shl x y) := fun t ht => by
        rw [form_shl hwh] at ht
        refine hsh.oi.emitted t ?_
        rw [List.mem_reverse, hkk, HN.out, shT_all]
        exact ht
      have HF := Sealed.mk (And.intro hsh (And.intro hwh (And.intro hown hcov))); clear hsh hgot hown hwh hen hkk hcov
      go_wp2_with fail
      refine bodyPost_ret (v := .tuple #[.slice a1 n c1, .bool true]) (by simp [results, Try.results70, go_sem]) rfl ?_
      obtain ⟨hsh, hwh, hown, hcov⟩ := HF.out
      rw [← HN.out] at hown
      refine ⟨vs1, b1, hsh.oi.step, hsh.oi.fstep, .inl ⟨hwh, a1, c1, ?_, ?_, hcov, ?_⟩⟩
      · rw [← HN.out]
      · rw [← HN.out]; exact hown
      · rw [← HN.out]; exact hsh.oi.free
end Go.Proofs.Ytgchfbfgjanaiaa
