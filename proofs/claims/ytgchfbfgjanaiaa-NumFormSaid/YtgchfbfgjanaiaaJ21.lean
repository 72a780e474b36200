/- num.world.give's walk -/
import Derived.Test.YtgchfbfgjanaiaaJ20
import Derived.Deep.LoopGhost
import Derived.Deep.DeepCutAuto
set_option linter.unusedSimpArgs false
set_option linter.unusedVariables false
namespace Go.Proofs.Ytgchfbfgjanaiaa
open Go.RowKit Sr
def WalkOut (g : GB) (wp : Nat) (vs : List Int) (x0 y : Int) (wr : World) (ok : Bool) (ps : List Nat) (e : Ending) (w' : World) : Prop :=
  ∃ (ok' : Bool) (ps' : List Nat) (hl' : List (Int × Int)) (h : Int), e = .returned (.int .i64 h) ∧ GStep g wr w' ∧ GM g wp vs w' ok' ps' hl' ∧ GP vs x0 ok' ps' hl' ∧ (∀ e ∈ ps, e ∈ ps') ∧ (∀ e ∈ ps', e ∈ ps ∨ Part e y) ∧
    (ok' = true → ok = true ∧ (∀ e ∈ exps y, e ∈ ps') ∧ h = (height y : Int))
set_option maxRecDepth 100000 in
set_option maxHeartbeats 4000000 in
theorem walk_step {g : GB} {U vs : List Int} {b : WB} {x0 y : Int} {w0 ws : World} {ok : Bool} {ps : List Nat} {hl : List (Int × Int)} {v : Value} (hg : g.Ok w0.heap.size) (hw0 : WInv w0 b vs U) (hx0 : Cov vs x0)
    (ih : ∀ e ∈ exps y, ∀ {wr : World} {ok : Bool} {ps : List Nat} {hl : List (Int × Int)} {v : Value}, TL w0 v (enc vs (e : Int)) → Below w0.heap.size w0 wr → GM g b.p vs wr ok ps hl → GP vs x0 ok ps hl →
      Calls Try.prog 90 #[v, pt g.bh, pt g.bo, pt g.bw, pt g.bp, pt g.bk] wr (WalkOut g b.p vs x0 (e : Int) wr ok ps))
    (hy : ∀ e ∈ exps y, Part e x0) (hcy : Cov vs y) (hl0 : TL w0 v (enc vs y)) (hb : Below w0.heap.size w0 ws) (hm : GM g b.p vs ws ok ps hl) (hp : GP vs x0 ok ps hl) :
    Calls Try.prog 90 #[v, pt g.bh, pt g.bo, pt g.bw, pt g.bp, pt g.bk] ws (WalkOut g b.p vs x0 y ws ok ps) := by
  obtain ⟨a, n, c, rfl⟩ := hl0.slice
  obtain ⟨hn, hn1, hnc, -⟩ := hl0.cells
  have hnE : n = (exps y).length := by rw [hn]; simp [enc, exps]
  clear hn
  have HG := Sealed.mk hg; clear hg
  have H0 := Sealed.mk hw0; clear hw0
  have HX0 := Sealed.mk hx0; clear hx0
  have HIH := Sealed.mk @ih; clear ih
  have HY := Sealed.mk (And.intro hy hcy); clear hy hcy
  have HL := Sealed.mk hl0; clear hl0
  have HB := Sealed.mk hb; clear hb
  have HM := Sealed.mk hm; clear hm
  have HP := Sealed.mk hp; clear hp
  have HNE := Sealed.mk hnE; clear hnE
  unfold pt
  go_enter Try.func90, Try.ntmps90
  go_wp2_with fail
  go_loopg [8, 16] n (fun j hv iv W => ∃ (k : Nat) (ok1 : Bool) (ps1 : List Nat) (hl1 : List (Int × Int)) (hc : Int), j = n - k ∧ k ≤ n ∧ iv = .int .i64 (k : Int) ∧ hv = .int .i64 hc ∧ GStep g ws W ∧ GM g b.p vs W ok1 ps1 hl1 ∧ GP vs x0 ok1 ps1 hl1 ∧
    (∀ e ∈ ps, e ∈ ps1) ∧ (∀ e ∈ ps1, e ∈ ps ∨ Part e y) ∧ (ok1 = true → ok = true ∧ (∀ e ∈ (exps y).take k, e ∈ ps1) ∧ hc = (hmax ((exps y).take k) (fun e => height (e : Int)) : Int)))
  case atStart => exact ⟨0, ok, ps, hl, 0, rfl, Nat.zero_le _, rfl, rfl, GStep.refl _ _, HM.out, HP.out, fun _ h => h, fun _ h => .inl h, fun h => ⟨h, by simp, by simp [hmax]⟩⟩
  case round =>
    obtain ⟨k, ok1, ps1, hl1, hc, rfl, hk, rfl, rfl, hbW, hmW, hpW, hs1, hs2, hs3⟩ := hrel
    by_cases hkn : k < n
    · obtain ⟨⟨m, e⟩, ht⟩ : ∃ t, (form y)[k]? = some t := ⟨_, List.getElem?_eq_getElem (by have := HNE.out; simp [exps] at this; omega)⟩
      have hEk : (exps y)[k]? = some e := by simp [exps, ht]
      have hey : e ∈ exps y := List.mem_of_getElem? hEk
      have hev : (e : Int) ∈ vs := HY.out.2 _ (List.mem_of_getElem? ht)
      have hep := HY.out.1 e hey
      obtain ⟨q, hq⟩ : ∃ q : Nat, q = vs.idxOf (e : Int) := ⟨_, rfl⟩
      have hte : (enc vs y)[k]? = some (m, q) := by rw [enc_get, ht, hq]; rfl
      have hb0 : Below w0.heap.size w0 wr := HB.out.trans (hbW.below HM.out HG.out)
      obtain ⟨-, -, -, hcell⟩ := (HL.out.below hb0).cells
      obtain ⟨bb, oo, rfl, h1, h2⟩ := hcell k _ hte
      clear hcell
      have hbb := lt_of_cell h1
      dsimp only at h1 h2
      have hwi := H0.out.below hb0
      have hhe : height (e : Int) ≤ roomW := by
        have a1 := height_plist _ (Nat.lt_succ_self (e : Int).natAbs)
        have a2 := hwi.cl.plist_length (hwi.cl.cov hev)
        have a3 := hwi.length
        omega
      unfold roomW at hhe
      have hch := hmW.ch.cell
      have hchl := hmW.ch.lt
      have hco := hmW.co.cell
      have hcol := hmW.co.lt
      have hmA := hmW.keep ((Ext.refl noB wr).alloc (.cells #[.bool m, .int .i64 (q : Int)] 98))
      have lk := run_lookup_ok kk_int Try.underlying104 zero_int hmA.hm (q : Int)
      have hkn2 := hpW.known e hev
      rw [← hq] at hkn2
      have HEV := Sealed.mk (And.intro hEk (And.intro hey (And.intro hev (And.intro hep (And.intro hq hte))))); clear hEk hey hev hep hq hte ht
      have HMW := Sealed.mk hmW; clear hmW
      have HMA := Sealed.mk hmA; clear hmA
      have HPW := Sealed.mk hpW; clear hpW
      have HWI := Sealed.mk hwi; clear hwi
      have HBW := Sealed.mk (And.intro hbW (And.intro hb0 (And.intro hs1 (And.intro hs2 hs3)))); clear hbW hb0 hs1 hs2 hs3
      cases hl : lookK hl1 (q : Int) with
      | some r =>
        rw [hl] at lk hkn2
        simp only [Option.getD_some, Option.isSome_some] at lk
        have hep1 : e ∈ ps1 := by simpa using hkn2.symm
        have hrr : ok1 = true → r = (height (e : Int) : Int) := fun ho => by
          have := HPW.out.right ho e hep1
          rw [← HEV.out.2.2.2.2.1, hl] at this
          exact Option.some.inj this
        have HRR := Sealed.mk hrr; clear hrr
        have HEP := Sealed.mk hep1; clear hep1 hkn2
        clear hl
        go_wp2_with fail
        all_goals
          go_roundg (n - (k + 1))
          case measure => omega
          case rel =>
            obtain ⟨r1, r2, r3, r4, r5⟩ := HBW.out
            refine ⟨k + 1, ok1, ps1, hl1, _, rfl, by omega, by push_cast; rfl, rfl, r1.trans (GStep.of_ext (N := noB) ((Ext.refl noB wr).alloc _) (fun q h => h.elim) HMW.out.bplt fun h => h), HMA.out, HPW.out, r3, r4, fun ho => ?_⟩
            obtain ⟨q1, q2, q3⟩ := r5 ho
            have hr := HRR.out ho
            have hw : wrap64 (r + 1) = r + 1 := by unfold wrap64; omega
            rw [take_snoc HEV.out.1, hmax_snoc]
            refine ⟨q1, fun f hf => ?_, by push_cast; omega⟩
            rcases List.mem_append.1 hf with hf | hf
            · exact q2 f hf
            · simp at hf; subst hf; exact HEP.out
      | none =>
        rw [hl] at lk hkn2
        simp only [Option.getD_none, Option.isSome_none] at lk
        clear hl
        have hnp : e ∉ ps1 := by simpa using hkn2.symm
        have HNP := Sealed.mk hnp; clear hnp hkn2
        cases ok1
        · go_wp2_with fail
          all_goals
            go_roundg (n - (k + 1))
            case measure => omega
            case rel =>
              obtain ⟨r1, r2, r3, r4, r5⟩ := HBW.out
              exact ⟨k + 1, false, ps1, hl1, _, rfl, by omega, by push_cast; rfl, rfl, r1.trans (GStep.of_ext (N := noB) ((Ext.refl noB wr).alloc _) (fun q h => h.elim) HMW.out.bplt fun h => h), HMA.out, HPW.out, r3, r4, fun ho => by simp at ho⟩
        · obtain ⟨cap, cur, f1, f2, f3, f4, f5, f6⟩ := H0.out.forms
          have hqv : vs[q]? = some (e : Int) := by rw [HEV.out.2.2.2.2.1]; exact idxOf_get HEV.out.2.2.1
          have hql : q < vs.length := (List.getElem?_eq_some_iff.1 hqv).1
          obtain ⟨fv, g1, t1, -⟩ := f6 q _ hqv
          obtain ⟨fa, fn, fc, rfl⟩ := t1.slice
          have hfn : fn = (form (e : Int)).length := by have := t1.cells.1; rw [this]; simp [enc]
          have hfc : fn ≤ 100000 := t1.cells.2.1
          obtain ⟨W1, hW1⟩ : ∃ W1, W1 = wr.alloc (.cells #[.bool m, .int .i64 (q : Int)] 98) := ⟨_, rfl⟩
          have hbW1 : Below w0.heap.size w0 W1 := by rw [hW1]; exact HBW.out.2.1.alloc HBW.out.2.1.size _
          have c0 : W1.cell? ⟨b.p, 0, none⟩ = some (.slice (some ⟨b.f, 0, none⟩) vs.length cap) := by
            rw [cell_same (hbW1.block b.p (lt_of_blk f1)), cell_of_blk f1]; rfl
          have c1 : W1.cell? ⟨b.f, q, none⟩ = some (.slice fa fn fc) := by
            rw [cell_same (hbW1.block b.f (lt_of_blk f2)), cell_of_blk f2]; exact g1
          have kb : W1.heap[wr.heap.size]? = some (.cells #[.bool m, .int .i64 (q : Int)] 98 (0, 0)) := by rw [hW1]; exact blk_alloc _ _
          have k1 : W1.cell? ⟨wr.heap.size, 1, none⟩ = some (.int .i64 (q : Int)) := by rw [cell_of_blk kb]; rfl
          have hMA := HMA.out
          rw [← hW1] at hMA
          have c2 := hMA.cw.cell
          obtain ⟨pv, hpv, hpown⟩ := hMA.cp
          obtain ⟨pa, pc, rfl⟩ := own_slice hpown
          have c3 := hpv.cell
          have c4 := hMA.co.cell
          have c5 := hMA.co.thaw
          unfold pt at c2
          have HMB := Sealed.mk (And.intro hMA (And.intro hpv (And.intro hpown (And.intro hbW1 (And.intro kb hW1)))));
          have HFN := Sealed.mk (And.intro hfn (And.intro t1 hqv)); clear hfn t1 hqv f1 f2 f3 f4 f5 f6 g1
          go_wp2_with fail
          rw [← hW1]
          clear hMA hpv hpown hbW1 kb hW1 lk
          go_quiet (fail)
          go_upto_region 8 with fail
          go_cut [47] (fun _ wx => wx = (W1.drewN nq).setCell ⟨g.bo, 0, none⟩ (.bool (decide (fn ≤ 300 ∧ ps1.length < 2000))))
          case first =>
            by_cases a1 : fn ≤ 300
            · by_cases a2 : ps1.length < 2000
              · have hd : decide (fn ≤ 300 ∧ ps1.length < 2000) = true := by simp [a1, a2]
                have HD := Sealed.mk hd; clear hd
                go_wp2_with fail
                go_meet
                case rel => rw [HD.out, decide_eq_true (by omega)]
              · have hd : decide (fn ≤ 300 ∧ ps1.length < 2000) = false := by simp [a2]
                have HD := Sealed.mk hd; clear hd
                go_wp2_with fail
                go_meet
                case rel => rw [HD.out, decide_eq_false (by omega)]
            · have hd : decide (fn ≤ 300 ∧ ps1.length < 2000) = false := by simp [a1]
              have HD := Sealed.mk hd; clear hd
              go_wp2_with fail
              go_meet
              case rel => rw [HD.out]
          case rest =>
            obtain rfl := hcut
            obtain ⟨okk, hokk⟩ : ∃ okk, okk = decide (fn ≤ 300 ∧ ps1.length < 2000) := ⟨_, rfl⟩
            rw [← hokk]
            have hbad : okk = false → ¬ Allowed x0 := by
              intro h0 hA
              rw [h0] at hokk
              have h1 : ¬ (fn ≤ 300 ∧ ps1.length < 2000) := fun h => by simp [h] at hokk
              have h2 := hA.2.1 e HEV.out.2.2.2.1
              have h3 := hA.2.2.1
              have h4 := HPW.out.length
              unfold weight at h3
              have h5 := HFN.out.1
              omega
            have hgood : okk = true → (form (e : Int)).length ≤ 300 := by
              intro h0
              rw [h0] at hokk
              have h1 := of_decide_eq_true hokk.symm
              have h5 := HFN.out.1
              omega
            obtain ⟨W3, hW3⟩ : ∃ W3, W3 = (W1.drewN nq).setCell ⟨g.bo, 0, none⟩ (.bool okk) := ⟨_, rfl⟩
            have gmd : GM g b.p vs (W1.drewN nq) true ps1 hl1 := HMB.out.1.keep ((Ext.refl noB W1).drewN nq)
            have gm3 : GM g b.p vs W3 okk ps1 hl1 := by rw [hW3]; exact gmd.setOk HG.out okk
            have gs3 : GStep g wr W3 := by
              have e1 : GStep g wr W1 := by rw [HMB.out.2.2.2.2.2]; exact GStep.of_ext (N := noB) ((Ext.refl noB wr).alloc _) (fun q h => h.elim) HMW.out.bplt fun h => h
              have e2 : GStep g W1 (W1.drewN nq) := GStep.of_ext (N := noB) ((Ext.refl noB W1).drewN nq) (fun q h => h.elim) HMB.out.1.bplt fun h => h
              have e3 : GStep g (W1.drewN nq) W3 := by
                rw [hW3]
                exact GStep.of_ext (N := fun q => q = g.bo) ((Ext.refl (fun q => q = g.bo) _).setCell (p := ⟨g.bo, 0, none⟩) (.inl rfl) _) (fun q h => .inl h) gmd.bplt fun h => HG.out.o.2.2.1 h.symm
              exact (e1.trans e2).trans e3
            have kb3 : W3.heap[wr.heap.size]? = some (.cells #[.bool m, .int .i64 (q : Int)] 98 (0, 0)) := by
              rw [hW3]
              exact (setCell_other (w := W1.drewN nq) (b := g.bo) (.bool okk) (by omega) (lt_of_blk HMB.out.2.2.2.2.1)).trans HMB.out.2.2.2.2.1
            have nx3 : ¬ GX g W3 wr.heap.size := fun hx => by
              rw [hW3] at hx
              have x1 := GX.back (N := fun q => q = g.bo) ((Ext.refl (fun q => q = g.bo) (W1.drewN nq)).setCell (p := ⟨g.bo, 0, none⟩) (.inl rfl) _) gmd.bplt (fun h => HG.out.o.2.2.1 h.symm) hx
              have x2 := GX.back (N := noB) ((Ext.refl noB W1).drewN nq) HMB.out.1.bplt (fun h => h) x1
              have hW1 := HMB.out.2.2.2.2.2
              rw [hW1] at x2
              have x3 := GX.back (N := noB) ((Ext.refl noB wr).alloc _) HMW.out.bplt (fun h => h) x2
              have := HMW.out.gx_lt x3
              omega
            rw [← hW3]
            have d5 := gm3.ck.cell
            have hb3 : Below w0.heap.size w0 W3 := HBW.out.2.1.trans (gs3.below HMW.out HG.out)
            have hcall := HIH.out e HEV.out.2.1 HFN.out.2.1 hb3 gm3 (HPW.out.turn hbad)
            have HC := Sealed.mk hcall; clear hcall
            have HK := Sealed.mk (And.intro hbad (And.intro hgood (And.intro gm3 (And.intro gs3 (And.intro kb3 (And.intro hb3 nx3)))))); clear hbad hgood gm3 gs3 kb3 hb3 nx3 gmd hW3 hokk c0 c1 c2 c3 c4 c5 k1
            unfold GB.free pt at d5
            unfold pt at HC
            go_upto_region 10 with (go_at_call 90; go_must (refine HC.out.mono ?_; rintro e' w4 ⟨ok4, ps4, hl4, hh, rfl, b4, gm4, gp4, s4a, s4b, s4c⟩))
            have ch4 := gm4.ch.cell
            have kb4 : w4.heap[wr.heap.size]? = some (.cells #[.bool m, .int .i64 (q : Int)] 98 (0, 0)) := b4.ext.get HK.out.2.2.2.2.1 HK.out.2.2.2.2.2.2
            have k4 : w4.cell? ⟨wr.heap.size, 1, none⟩ = some (.int .i64 (q : Int)) := by rw [cell_of_blk kb4]; rfl
            have hnp4 : e ∉ ps4 := fun h => by
              rcases s4b e h with h | h
              · exact HNP.out h
              · have := h.lt; simp at this
            have gp5 := gp4.push (k := hh) HEV.out.2.2.1 HEV.out.2.2.2.1 hnp4 (fun ho => (s4c ho).2.2) (fun ho => (s4c ho).2.1) (fun ho => HK.out.2.1 (s4c ho).1)
            rw [← HEV.out.2.2.2.2.1] at gp5
            have hpl := gp5.length
            have hpl2 := HWI.out.cl.plist_length HX0.out
            have hpl3 := HWI.out.length
            unfold roomW at hpl3
            simp only [List.length_append, List.length_cons, List.length_nil] at hpl
            have H4 := Sealed.mk (And.intro b4 (And.intro gm4 (And.intro gp4 (And.intro s4a (And.intro s4b (And.intro s4c (And.intro kb4 gp5))))))); clear b4 gm4 gp4 s4a s4b s4c kb4 gp5
            have HNP4 := Sealed.mk hnp4; clear hnp4
            go_wp2_with (refine wp_update kk_int Try.underlying104 (.tmp 51) (.tmp 53) (.tmp 54) rfl rfl H4.out.2.2.1.apart (l := hl4) (r := g.mh) H4.out.2.1.hm (q : Int) hh rfl rfl rfl ?_)
            intro w5 hm5 hg5
            have gm5 := H4.out.2.1.setMap HG.out hm5 hg5
            have kb5 : w5.heap[wr.heap.size]? = some (.cells #[.bool m, .int .i64 (q : Int)] 98 (0, 0)) := (hg5.block _ (lt_of_blk H4.out.2.2.2.2.2.2.1) fun e => by have := HMW.out.hm.lt; have e' := Option.some.inj e; omega).trans H4.out.2.2.2.2.2.2.1
            have k5 : w5.cell? ⟨wr.heap.size, 1, none⟩ = some (.int .i64 (q : Int)) := by rw [cell_of_blk kb5]; rfl
            have gs5 : GStep g w4 w5 := GStep.of_ext (N := fun q => q = g.mh) ((Ext.refl _ w4).grown hg5 fun k hk => .inl (Option.some.inj hk).symm) (fun q h => .inr (.inr (.inl h))) H4.out.2.1.bplt fun h => HG.out.p.2.2.2 h
            obtain ⟨pv5, hv5, hown5⟩ := gm5.cp
            have c5 := hv5.cell
            have hB5 := gm5.size
            have H5 := Sealed.mk (And.intro gm5 (And.intro gs5 hv5)); clear gm5 gs5 hv5 hm5 hg5 kb5
            clear ch4 k4 d5
            go_wp2_with (at_builtin; go_must (refine ap_litp (m := 1) el_int (.tmp 55) (.tmp 58) rfl rfl rfl hown5 rfl (by simp) rfl (by decide) ?h1 ?h2 ?h3 ?h4))
            case h1 => simp [Value.oneCell']
            case h2 => omega
            case h3 => exact hB5
            case h4 =>
              intro gb gc w6 hown6 hgrow6 hnew6
              have hne6 : pv5.ownBlock ≠ some g.bp := fun h => by have := (hown5.lt _ h).1; have := HG.out.high; omega
              have hv6 : Var w6 g.bp pv5 := H5.out.2.2.same (hgrow6.block _ H5.out.2.2.lt fun h => hne6 h.symm)
              have c6 := hv6.cell
              have t6 := hv6.thaw
              have hown7 : w6.ownsRow g.B 3 1 (.slice (some ⟨gb, 0, none⟩) (ps4.length + 1) gc) (ps4 ++ [e]).length (icells ((ps4 ++ [e]).map fun e : Nat => vs.idxOf (e : Int))) := by
                have hq := HEV.out.2.2.2.2.1
                simpa [icells, hq] using hown6
              have gm7 := H5.out.1.setParts HG.out H5.out.2.2 hown5 hgrow6 hown7
              have gs7 := GStep.setParts H5.out.1 H5.out.2.2 hgrow6 hnew6 hne6
              have H7 := Sealed.mk (And.intro gm7 gs7); clear gm7 gs7 hown7 hgrow6 hnew6 hown6 hv6 c5 k5
              clear hown5
              go_wp2_with fail
              all_goals
                go_roundg (n - (k + 1))
                case measure => omega
                case rel =>
                  obtain ⟨r1, r2, r3, r4, r5⟩ := HBW.out
                  obtain ⟨b4, gm4, gp4, s4a, s4b, s4c, kb4, gp5⟩ := H4.out
                  refine ⟨k + 1, ok4, ps4 ++ [e], _, _, rfl, by omega, by push_cast; rfl, rfl, (((r1.trans HK.out.2.2.2.1).trans b4).trans H5.out.2.1).trans H7.out.2, H7.out.1, gp5, fun f hf => List.mem_append_left _ (s4a f (r3 f hf)), fun f hf => ?_, fun ho => ?_⟩
                  · rcases List.mem_append.1 hf with hf | hf
                    · rcases s4b f hf with hf | hf
                      · exact r4 f hf
                      · exact .inr (.deep HEV.out.2.1 hf)
                    · simp at hf; subst hf; exact .inr (.here HEV.out.2.1)
                  · obtain ⟨q1, q2, q3⟩ := s4c ho
                    obtain ⟨p1, p2, p3⟩ := r5 (by trivial)
                    have hw : wrap64 (hh + 1) = hh + 1 := by unfold wrap64; omega
                    rw [take_snoc HEV.out.1, hmax_snoc]
                    refine ⟨p1, fun f hf => ?_, by push_cast; omega⟩
                    rcases List.mem_append.1 hf with hf | hf
                    · exact List.mem_append_left _ (s4a f (p2 f hf))
                    · simp at hf; subst hf; simp
    · have hkk : k = n := by omega
      subst hkk
      have HR := Sealed.mk (And.intro hbW (And.intro hmW (And.intro hpW (And.intro hs1 (And.intro hs2 hs3))))); clear hbW hmW hpW hs1 hs2 hs3
      go_wp2_with fail
      go_ret
      obtain ⟨r1, r2, r3, r4, r5, r6⟩ := HR.out
      refine ⟨ok1, ps1, hl1, hc, rfl, r1, r2, r3, r4, r5, fun h => ?_⟩
      obtain ⟨q1, q2, q3⟩ := r6 h
      rw [HNE.out, List.take_length] at q2 q3
      exact ⟨q1, q2, by rw [q3, height_eq]; rfl⟩
theorem walk_any {g : GB} {U vs : List Int} {b : WB} {x0 : Int} {w0 : World} (hg : g.Ok w0.heap.size) (hw0 : WInv w0 b vs U) (hx0 : Cov vs x0) (n : Nat) : ∀ {y : Int}, y.natAbs < n → (∀ e ∈ exps y, Part e x0) → Cov vs y →
    ∀ {wr : World} {ok : Bool} {ps : List Nat} {hl : List (Int × Int)} {v : Value}, TL w0 v (enc vs y) → Below w0.heap.size w0 wr → GM g b.p vs wr ok ps hl → GP vs x0 ok ps hl →
      Calls Try.prog 90 #[v, pt g.bh, pt g.bo, pt g.bw, pt g.bp, pt g.bk] wr (WalkOut g b.p vs x0 y wr ok ps) := by
  induction n with
  | zero => intro y h; omega
  | succ n ih =>
    intro y hn hy hc wr ok ps hl v hl0 hb hm hp
    refine walk_step hg hw0 hx0 (fun e he => ?_) hy hc hl0 hb hm hp
    intro wr' ok' ps' hl' v' a1 a2 a3 a4
    obtain ⟨t, ht, rfl⟩ := mem_exps.1 he
    exact ih (by have := exps_lt he; simp; omega) (fun f hf => (hy _ he).up hf) (hw0.cl.cov (hc t ht)) a1 a2 a3 a4
end Go.Proofs.Ytgchfbfgjanaiaa
