/- sandreckonerlaw01.NumForm: the walk -/
import Derived.Test.YtgchfbfgjanaiaaLwFormRx01
import Derived.Test.YtgchfbfgjanaiaaJ35
import Derived.Test.YtgchfbfgjanaiaaC02
import Derived.Deep.CutRange
set_option linter.unusedSimpArgs false
set_option linter.unusedVariables false
namespace Go.Proofs.Ytgchfbfgjanaiaa
open Go.RowKit Sr
theorem sg_head {x : Int} {t : T} (h : (form x)[0]? = some t) : sg x = if t.1 then -1 else 1 := by
  have h1 := sgnT_enc [] x
  unfold enc at h1
  match hf : form x, h with
  | s :: l, h =>
    rw [hf] at h1
    simp at h
    subst h
    rw [← h1]
    simp [sgnT, Sr.one]
theorem gap_at {x : Int} {k : Nat} {s t : T} (hs : (form x)[k]? = some s) (ht : (form x)[k + 1]? = some t) : t.2 + 1 < s.2 := by
  obtain ⟨n, h⟩ := form_form x
  exact under_gap _ n h k s t hs ht
set_option maxRecDepth 100000 in
set_option maxHeartbeats 4000000 in
theorem lawForm_any {w : World} {v : Value} {ops : List (Int × Int × Int × Int)} (h : OpsAt w v ops) : Calls Try.prog 6 #[v] w fun e w' => e = .returned (.bool true) ∧ Below w.heap.size w w' := by
  have hmd := lawMade_any h
  have HM := Sealed.mk hmd; clear hmd h
  go_enter Try.func6, Try.ntmps6
  go_upto_region 2 with (go_at_call 40; go_must (refine HM.out.mono ?_; rintro e W2 ⟨av, cv, zs, ps, rfl, hns, hml, hb2⟩; have H2 := Sealed.mk (And.intro hns (And.intro hml hb2)); clear hns hml hb2))
  clear HM
  obtain ⟨m, hm⟩ : ∃ m, m = zs.length := ⟨_, rfl⟩
  have hm9 : 3 ≤ m ∧ m ≤ 27 := by have := H2.out.2.1; unfold MadeL at this; omega
  have hown := H2.out.1.own
  rw [← hm] at hown ⊢
  obtain ⟨gl, capl, egl⟩ := own_form hown (by omega)
  obtain ⟨rfl, -, rfl⟩ := Value.slice.inj egl
  have hL : ∀ (i : Nat) (p : Option Addr) (x : Int), ps[i]? = some p → zs[i]? = some x → ∀ W, Below W2.heap.size W2 W → W.cell? ⟨gl, i, none⟩ = some (.pointer p) ∧ NumIs W (.agg #[.pointer p]) x := fun i p x hp hx W hb => by
    have h1 := H2.out.1.below hb
    exact ⟨own_cell h1.own rfl (by rw [List.getElem?_map, hp]; rfl), h1.num i p x hp hx⟩
  have hex : ∀ i, i < m → ∃ p x, ps[i]? = some p ∧ zs[i]? = some x ∧ wl x ≤ 40 ∧ weight x ≤ 120 := fun i hi => by
    have hz : zs[i]? = some zs[i] := List.getElem?_eq_getElem (by omega)
    obtain ⟨p, hp⟩ : ∃ p, ps[i]? = some p := ⟨_, List.getElem?_eq_getElem (by rw [H2.out.1.len]; omega)⟩
    have := H2.out.2.1.2.2 _ (List.mem_of_getElem? hz)
    exact ⟨_, _, hp, hz, this.1, this.2⟩
  have HL := Sealed.mk (And.intro hL (And.intro hex H2.out.2.2))
  clear hown hL hex hm egl H2
  go_wp2_with fail
  go_loopg [4] m (fun jj iv W => ∃ i : Nat, jj = m - i ∧ i ≤ m ∧ iv = .int .i64 (i : Int) ∧ Sealed (Below W2.heap.size W2 W))
  case atStart => exact ⟨0, rfl, Nat.zero_le _, rfl, ⟨Below.refl _ _⟩⟩
  case round =>
    obtain ⟨i, rfl, hi, rfl, HB⟩ := hrel
    have hiw : wrap64 ((i : Int) + 1) = (i : Int) + 1 := w64_in (by omega) (by omega)
    by_cases him : i < m
    · obtain ⟨px, x, hpx, hx, hw40, hw120⟩ := HL.out.2.1 i him
      have hnum := HL.out.1 i px x hpx hx
      have HX := Sealed.mk (And.intro hnum (And.intro (hnum wr HB.out).2.1 (And.intro hw40 hw120)))
      have c0 := (hnum wr HB.out).1
      have himI : (i : Int) < (m : Int) := by clear hiw; omega
      obtain ⟨tn, htn⟩ : ∃ n, n = wl x := ⟨_, rfl⟩
      have htn4 : tn ≤ 40 := by clear hiw; omega
      have HTN := Sealed.mk htn
      clear htn hnum hpx hx hw40 hw120 hiw
      go_upto_region 6 with (go_at_call 41; go_must ((with_reducible refine (Terms_any (HX.out.1 wr HB.out).2).mono ?_); rintro e wT ⟨aT, cT, tsT, rfl, hto, hb⟩; rw [← HTN.out] at hto ⊢; have HT := Sealed.mk (And.intro hto hb); clear hto hb))
      clear c0
      obtain ⟨W7, hW7⟩ : ∃ W7, W7 = wT.alloc (.cells #[] 47) := ⟨_, rfl⟩
      obtain ⟨gb, hgb⟩ : ∃ g, g = wT.heap.size := ⟨_, rfl⟩
      have hb7 : Below wT.heap.size wT W7 := by rw [hW7]; exact (Below.refl _ _).alloc (Nat.le_refl _) _
      have ho7 : TermsOwn W7 wT.heap.size (.slice (some ⟨gb, 0, none⟩) 0 0) ((termsZ x).reverse.take 0) [] := by
        refine ⟨?_, rfl, fun i t s h => by simp at h⟩
        rw [hW7, hgb]
        exact own_empty (Nat.le_refl _) #[] rfl
      have B7 := Sealed.mk (And.intro hb7 ho7)
      clear hb7 ho7
      go_upto_region 8 with fail
      rw [← hW7, ← hgb]
      clear hW7 hgb
      go_wp2_with fail
      go_loopg [6, 7, 8] tn (fun jj hv bv kv W => ∃ (k : Nat) (ba : Option Addr) (bc : Nat) (tsb : List (Bool × Option Addr)), jj = tn - k ∧ k ≤ tn ∧ kv = .int .i64 (k : Int) ∧ hv = .int .i64 (hk x k : Int) ∧ bv = .slice ba k bc ∧ Sealed (Below wT.heap.size wT W ∧ TermsOwn W wT.heap.size (.slice ba k bc) ((termsZ x).reverse.take k) tsb))
      case atStart => exact ⟨0, _, 0, [], rfl, Nat.zero_le _, rfl, rfl, rfl, B7⟩
      case round =>
        clear B7
        obtain ⟨k, ba, bc, tsb, rfl, hk', rfl, rfl, rfl, HK⟩ := hrel
        by_cases hkt : k < tn
        · obtain ⟨gT, cT', eT⟩ := own_form HT.out.1.own (by rw [termsZ_length, ← HTN.out]; omega)
          obtain ⟨rfl, -, rfl⟩ := Value.slice.inj eT
          have hG : ∀ (j : Nat) (t : T), (form x)[j]? = some t → ∃ q, ∀ W, Below wT.heap.size wT W → W.cell? ⟨gT, j * 2, none⟩ = some (.bool t.1) ∧ W.cell? ⟨gT, j * 2 + 1, none⟩ = some (.pointer q) ∧ NumIs W (.agg #[.pointer q]) (t.2 : Int) := fun j t ht => by
            have htz : (termsZ x)[j]? = some (t.1, (t.2 : Int)) := by unfold termsZ; rw [List.getElem?_map, ht]; rfl
            obtain ⟨q, d0, d1, hq⟩ := terms_get HT.out.1 htz
            exact ⟨q, fun W hb => ⟨(cell_same (hb.block _ (lt_of_cell d0)) _).trans d0, (cell_same (hb.block _ (lt_of_cell d1)) _).trans d1, hq.below hb⟩⟩
          have hlen : (form x).length = tn := HTN.out.symm
          obtain ⟨⟨mk, ek⟩, htk⟩ : ∃ t, (form x)[k]? = some t := ⟨_, List.getElem?_eq_getElem (by omega)⟩
          obtain ⟨qk, hqk⟩ := hG k _ htk
          obtain ⟨r, hr⟩ : ∃ r, r = tn - 1 - k := ⟨_, rfl⟩
          obtain ⟨⟨mr, er⟩, htr⟩ : ∃ t, (form x)[r]? = some t := ⟨_, List.getElem?_eq_getElem (by omega)⟩
          obtain ⟨qr, hqr⟩ := hG r _ htr
          have hkx : ek ∈ exps x := mem_exps.2 ⟨_, List.mem_of_getElem? htk, rfl⟩
          have hhk := hk_succ htk
          have hhl := hk_le HX.out.2.1 k
          have hhe := (allowed_part HX.out.2.1 (.here hkx)).2.2.2
          obtain ⟨hv, hhv⟩ : ∃ h, h = hk x k := ⟨_, rfl⟩
          obtain ⟨he, hhe2⟩ : ∃ h, h = height (ek : Int) := ⟨_, rfl⟩
          obtain ⟨sk, hsk⟩ : ∃ s, s = sg (ek : Int) := ⟨_, rfl⟩
          have hsk0 : decide (sk < 0) = false := decide_eq_false (by rw [hsk]; unfold sg; rw [if_neg (by omega)]; split <;> omega)
          simp only at hhk hqk hqr
          rw [← hhv] at hhl hhk ⊢
          rw [← hhe2] at hhe hhk
          have hkk : k < tn := hkt
          have hktI : (k : Int) < (tn : Int) := by omega
          have ck := (hqk wr HK.out.1).2.1
          have HQ := Sealed.mk (And.intro hqk (And.intro hqr (And.intro hG (And.intro htk (And.intro htr (And.intro hkx (And.intro hhk (And.intro hhe2 (And.intro hsk hr)))))))))
          clear hqk hqr hG htk htr hkx hhk hhe2 hsk hr hhv eT hlen
          go_upto_region 13 with (go_at_call 42; go_must (have hq := Sign_any (HQ.out.1 wr HK.out.1).2.2; rw [← HQ.out.2.2.2.2.2.2.2.2.1] at hq; (with_reducible refine hq.mono ?_); clear hq; rintro e w13 ⟨rfl, hb⟩; have K13 := Sealed.mk (And.intro (r_chain9 HK.out.1 hb) (HK.out.2.below hb)); clear hb))
          clear ck
          go_upto_if 44 with fail
          go_cut [9, 10] from 44 to 67 (fun v9 v10 wx => Below w13.heap.size w13 wx)
          case first =>
            by_cases hk0 : k = 0
            · subst hk0
              go_wp2_with fail
              go_meet
              case rel => exact Below.refl _ _
            · obtain ⟨ka, hka⟩ : ∃ ka, k = ka + 1 := ⟨k - 1, by omega⟩
              obtain ⟨⟨mp, ep⟩, htp⟩ : ∃ t, (form x)[ka]? = some t := ⟨_, List.getElem?_eq_getElem (by have := HTN.out; unfold wl at this; omega)⟩
              obtain ⟨qp, hqp⟩ := HQ.out.2.2.1 ka _ htp
              have hgap := gap_at htp (by rw [← hka]; exact HQ.out.2.2.2.1)
              have hpx : ep ∈ exps x := mem_exps.2 ⟨_, List.mem_of_getElem? htp, rfl⟩
              simp only at hgap hqp
              obtain ⟨dd, hdd⟩ : ∃ d : Int, d = (ep : Int) - (ek : Int) := ⟨_, rfl⟩
              have hgv : gv ((ep : Int) - (ek : Int)) = (dd, 0) := by rw [hdd]; exact gv_ok (diff_allowed HX.out.2.1 HX.out.2.2.2 hpx HQ.out.2.2.2.2.2.1)
              obtain ⟨cc, hcc⟩ : ∃ c, c = sg (dd - 2) := ⟨_, rfl⟩
              have hcc0 : decide (cc < 0) = false := decide_eq_false (by rw [hcc]; unfold sg; rw [if_neg (by omega)]; split <;> omega)
              have HD := Sealed.mk (And.intro hgv (And.intro hcc hqp))
              clear hgv hcc hqp hgap hpx htp hdd
              have hk2 : (0 : Int) < (k : Int) := by omega
              have hk2n : 0 < k := by omega
              have bK : decide ((0 : Int) < (k : Int)) = true := decide_eq_true hk2
              have bKn : decide (0 < k) = true := decide_eq_true hk2n
              have hka2 : (ka : Int) < (tn : Int) := by omega
              have hka0 : (0 : Int) ≤ (ka : Int) := by omega
              have hkk0 : (0 : Int) ≤ (k : Int) := by omega
              have hw3 : (k : Int) - 1 = (ka : Int) := by omega
              clear hka hk0
              go_upto_region 14 with fail
              clear bK bKn hk2 hk2n
              go_cut [9, 10] from 44 to 59 (fun v9 v10 wx => ∃ k9 p9, v9 = .pointer (some ⟨k9, 0, none⟩) ∧ v10 = .int .i64 0 ∧ St w13 wx [] [(k9, p9, dd)])
              case first =>
                have hz1 : (0 : Int) ≤ (ka : Int) ∧ (ka : Int) ≤ 1000000000 := by omega
                have hw4 : wrap64 (ka : Int) = (ka : Int) := w64_in (Int.le_trans (by decide) hz1.1) (Int.le_trans hz1.2 (by decide))
                have hw5 : IntKind.i64.wrap (ka : Int) = (ka : Int) := i64_in (Int.le_trans (by decide) hz1.1) (Int.le_trans hz1.2 (by decide))
                have hw1 : wrap64 ((k : Int) - 1) = (ka : Int) := (congrArg wrap64 hw3).trans hw4
                have hw2 : IntKind.i64.wrap ((k : Int) - 1) = (ka : Int) := (congrArg IntKind.i64.wrap hw3).trans hw5
                have S := Sealed.mk (St.start w13)
                have hS : ∀ W, Below w13.heap.size w13 W → W.cell? ⟨gT, ka * 2 + 1, none⟩ = some (.pointer qp) ∧ W.cell? ⟨gT, k * 2 + 1, none⟩ = some (.pointer qk) := fun W hb => ⟨(HD.out.2.2 W (r_chain9 K13.out.1 hb)).2.1, (HQ.out.1 W (r_chain9 K13.out.1 hb)).2.1⟩
                have hN : ∀ W, Below w13.heap.size w13 W → NumIs W (.agg #[.pointer qp]) (ep : Int) ∧ NumIs W (.agg #[.pointer qk]) (ek : Int) := fun W hb => ⟨(HD.out.2.2 W (r_chain9 K13.out.1 hb)).2.2, (HQ.out.1 W (r_chain9 K13.out.1 hb)).2.2⟩
                have HS := Sealed.mk (And.intro hS hN)
                clear hS hN
                go_region_held3 (fun W => W.cell? ⟨gT, ka * 2 + 1, none⟩ = some (.pointer qp) ∧ W.cell? ⟨gT, k * 2 + 1, none⟩ = some (.pointer qk))
                  (first
                    | exact HS.out.1 _ S.out.below
                    | exact HS.out.1 _ S.out.dr.below
                    | exact HS.out.1 _ (S.out.new (NumIs.zero _)).below
                    | exact HS.out.1 _ (S.out.new (NumIs.zero _)).dr.below
                    | exact HS.out.1 _ (S.out.new (S.out.num 0 rfl)).below
                    | exact HS.out.1 _ (S.out.put 0 rfl (S.out.num 0 rfl)).below
                    | fail)
                  (first | (go_at_call 33; go_must (first
                    | ((with_reducible refine (Sub_two HD.out.1 (HS.out.2 _ S.out.dr.below).1 (HS.out.2 _ S.out.dr.below).2).mono ?_); rintro e w14 ⟨p14, rfl, hb, hn⟩; replace S := Sealed.mk (S.out.dr.res hb hn); clear hb hn)
                    | ((with_reducible refine (Sub_two HD.out.1 (HS.out.2 _ (S.out.new (NumIs.zero _)).dr.below).1 (HS.out.2 _ (S.out.new (NumIs.zero _)).dr.below).2).mono ?_); rintro e w14 ⟨p14, rfl, hb, hn⟩; replace S := Sealed.mk ((S.out.new (NumIs.zero _)).dr.res hb hn); have zc := S.out.cell 0 rfl; have zf := S.out.frozen 0 rfl; clear hb hn))))
                all_goals
                  go_wp2_with fail
                  go_meet
                  case rel =>
                    first
                      | exact ⟨_, _, rfl, rfl, (S.out.new (S.out.num 0 rfl)).clr⟩
                      | exact ⟨_, _, rfl, rfl, (S.out.put 0 rfl (S.out.num 0 rfl)).clr⟩
              case rest =>
                obtain ⟨k9, p9, rfl, rfl, hS⟩ := hcut
                obtain ⟨W9, hW9⟩ : ∃ W9, W9 = wc := ⟨_, rfl⟩
                rw [← hW9] at hS ⊢
                clear hW9
                have S := Sealed.mk hS.dr; clear hS
                have OF2 := Sealed.mk (fun W => Of_one (n := 2) (by unfold Is64; decide) W)
                go_upto_region 15 with fail
                go_region_held3 (fun W => W.cell? ⟨k9, 0, none⟩ = some (.pointer p9))
                  (first | exact S.out.cell 0 rfl | exact S.out.dr.cell 0 rfl)
                  (first
                    | (go_at_call 21; go_must ((with_reducible refine (OF2.out _).mono ?_); rintro e w15 ⟨p15, rfl, hb, hn⟩; replace S := Sealed.mk (S.out.res hb hn); clear hb hn))
                    | (go_at_call 37; go_must (have hq := Cmp_any (S.out.cnum 0 rfl) (S.out.num 0 rfl); rw [← HD.out.2.1] at hq; (with_reducible refine hq.mono ?_); clear hq; rintro e w16 ⟨rfl, hb⟩; replace S := Sealed.mk (S.out.adv hb); clear hb)))
                all_goals
                  go_wp2_with fail
                  go_meet
                  case rel => exact S.out.below
          case rest =>
            obtain ⟨W3, hW3⟩ : ∃ W3, W3 = wc := ⟨_, rfl⟩
            rw [← hW3] at hcut ⊢
            clear hW3
            have K3 := Sealed.mk (And.intro (r_chain9 K13.out.1 hcut) (K13.out.2.below hcut))
            clear hcut K13
            have ck := (HQ.out.1 W3 K3.out.1).2.1
            have hmx : max (hv : Int) ((he : Int) + 1) = ((max hv (he + 1) : Nat) : Int) := by omega
            go_upto_region 18 with (go_at_call 43; go_must (have hq := Height_any (HQ.out.1 W3 K3.out.1).2.2; rw [← HQ.out.2.2.2.2.2.2.2.1] at hq; (with_reducible refine hq.mono ?_); clear hq; rintro e w17 ⟨rfl, hb⟩; have K17 := Sealed.mk (And.intro (r_chain9 K3.out.1 hb) (K3.out.2.below hb)); clear hb))
            clear ck K3
            have hrk := HQ.out.2.2.2.2.2.2.2.2.2
            have hri : (r : Int) < (tn : Int) := by omega
            have hr0 : (0 : Int) ≤ (r : Int) := by omega
            have hre : (tn : Int) - 1 - (k : Int) = (r : Int) := by omega
            have hz1 : -1000000000000 ≤ (tn : Int) - 1 ∧ (tn : Int) - 1 ≤ 1000000000000 := by omega
            have hz2 : (0 : Int) ≤ (r : Int) ∧ (r : Int) ≤ 1000000000 := by omega
            have cr0 := (HQ.out.2.1 w17 K17.out.1).1
            have cr1 := (HQ.out.2.1 w17 K17.out.1).2.1
            have hown := K17.out.2.own
            have htl : ((termsZ x).reverse.take k).length = k := by rw [List.length_take, List.length_reverse, termsZ_length, ← HTN.out]; omega
            rw [htl] at hown
            have HO := Sealed.mk (And.intro hown htl)
            have hszT : wT.heap.size ≤ w17.heap.size := K17.out.1.size
            have hv1 : wrap64 ((tn : Int) - 1) = (tn : Int) - 1 := w64_in hz1.1 hz1.2
            have hv2 : wrap64 (r : Int) = (r : Int) := w64_in (Int.le_trans (by decide) hz2.1) (Int.le_trans hz2.2 (by decide))
            have hv3 : wrap64 ((tn : Int) - 1 - (k : Int)) = (r : Int) := (congrArg wrap64 hre).trans hv2
            clear hrk hown htl hmx hhl hhe
            go_wp2_with (at_builtin; go_must (refine ap_litp (m := 1) el_Term (.tmp 77) (.tmp 86) rfl rfl rfl HO.out.1 rfl (by simp) rfl (by decide) ?g1 ?g2 ?g3 ?g4))
            case g1 => simp [Value.oneCell']
            case g2 => clear hv1 hv2 hv3; omega
            case g3 => exact hszT
            case g4 =>
              intro g5 c5 w5 ho5 hg5 hn5
              have H5 := Sealed.mk (And.intro ho5 hg5); clear ho5 hg5 hn5
              clear hv1 hv2 hv3
              go_wp2_with fail
              go_roundg (tn - (k + 1))
              case measure => omega
              case rel =>
                have hrev : (termsZ x).reverse[k]? = some (mr, (er : Int)) := by
                  rw [List.getElem?_reverse (by rw [termsZ_length, ← HTN.out]; exact hkk), termsZ_length, ← HTN.out, ← HQ.out.2.2.2.2.2.2.2.2.2]
                  unfold termsZ; rw [List.getElem?_map, HQ.out.2.2.2.2.1]; rfl
                refine ⟨k + 1, _, _, tsb ++ [(mr, qr)], rfl, by omega, by push_cast; rfl, by rw [HQ.out.2.2.2.2.2.2.1], rfl, ⟨K17.out.1.grown H5.out.2 K17.out.1.size fun q hq => own_ge HO.out.1 q hq, ?_⟩⟩
                rw [take_snoc hrev]
                exact K17.out.2.push (Below.refl _ _) HO.out.2.symm ((HQ.out.2.1 w17 K17.out.1).2.2) H5.out.2 H5.out.1
        · obtain rfl : k = tn := by omega
          have hrl : (termsZ x).reverse.take k = (termsZ x).reverse := List.take_of_length_le (by rw [List.length_reverse, termsZ_length, ← HTN.out]; omega)
          have hta := (HT.out.1.below HK.out.1).at_ (by rw [termsZ_length, ← HTN.out]; omega)
          have htb := HK.out.2
          rw [hrl] at htb
          have htb2 := htb.at_ (by rw [List.length_reverse, termsZ_length, ← HTN.out]; omega)
          have hkx : hk x k = height x := by rw [HTN.out, hk_all]
          obtain ⟨ht, hht⟩ : ∃ h, h = height x := ⟨_, rfl⟩
          obtain ⟨wt, hwt⟩ : ∃ h, h = weight x := ⟨_, rfl⟩
          rw [hkx, ← hht]
          have HS := Sealed.mk (And.intro hta (And.intro htb2 (And.intro hht hwt)))
          clear hrl hta htb htb2 hkx hht hwt
          have hbw : Below W2.heap.size W2 wr := r_chain9 (r_chain9 HB.out HT.out.2) HK.out.1
          have S := Sealed.mk (St.start wr)
          have HW := Sealed.mk hbw; clear hbw
          obtain ⟨sx, hsx⟩ : ∃ s, s = sg x := ⟨_, rfl⟩
          have hsg : ∀ W, NumIs W (.agg #[.pointer px]) x → Calls Try.prog 42 #[.agg #[.pointer px]] W fun e w' => e = .returned (.int .i64 sx) ∧ Below W.heap.size W w' := fun W hN => by rw [hsx]; exact Sign_any hN
          have HSG := Sealed.mk hsg
          have HSX := Sealed.mk hsx
          clear hsg hsx
          go_upto_region 20 with (go_at_call 27; go_must ((with_reducible refine (Sum_two (sumR_Z HX.out.2.1) HS.out.1).mono ?_); rintro e w20 ⟨p11, rfl, hb, hn⟩; replace S := Sealed.mk (S.out.res hb hn); clear hb hn))
          have S0 := S.out.new (S.out.num 0 rfl)
          obtain ⟨W4, hW4⟩ : ∃ W4, W4 = w20.alloc (.cells #[.pointer p11] 30) := ⟨_, rfl⟩
          obtain ⟨k11, hk11⟩ : ∃ k, k = w20.heap.size := ⟨_, rfl⟩
          rw [← hW4, ← hk11] at S0
          rw [← hW4, ← hk11]
          clear hW4 hk11
          replace S := Sealed.mk S0.clr; clear S0
          have hbS := S.out.below
          have htb4 := HS.out.2.1.below hbS
          have HT4 := Sealed.mk htb4; clear htb4 hbS
          go_upto_region 21 with (go_at_call 27; go_must ((with_reducible refine (Sum_two (sumR_back HX.out.2.1) HT4.out).mono ?_); rintro e w21 ⟨p13, rfl, hb, hn⟩; replace S := Sealed.mk (S.out.res hb hn); clear hb hn))
          have S0 := S.out.new (S.out.num 0 rfl)
          obtain ⟨W5, hW5⟩ : ∃ W5, W5 = w21.alloc (.cells #[.pointer p13] 30) := ⟨_, rfl⟩
          obtain ⟨k13, hk13⟩ : ∃ k, k = w21.heap.size := ⟨_, rfl⟩
          rw [← hW5, ← hk13] at S0
          rw [← hW5, ← hk13]
          clear hW5 hk13
          replace S := Sealed.mk S0.clr; clear S0 HT4
          go_cut [144] from 98 to 144 (fun v wx => v = .bool false ∧ Below wr.heap.size wr wx)
          case first =>
            replace S := Sealed.mk S.out.dr
            have b1 : ((ht : Int) == (ht : Int)) = true := by simp
            have b2 : ((wt : Int) == (wt : Int)) = true := by simp
            go_region_held3 (fun W => W.cell? ⟨k11, 0, none⟩ = some (.pointer p11) ∧ W.cell? ⟨k13, 0, none⟩ = some (.pointer p13) ∧ W.cell? ⟨gl, i, none⟩ = some (.pointer px))
              (exact ⟨S.out.cell 1 rfl, S.out.cell 0 rfl, (HX.out.1 _ (r_chain9 HW.out S.out.below)).1⟩)
              (first
                | (go_at_call 20; go_must (first
                    | (have hq := lawSame_any (S.out.cnum 1 rfl) (HX.out.1 _ (r_chain9 HW.out S.out.below)).2; rw [decide_eq_true (rfl : x = x)] at hq; (with_reducible refine hq.mono ?_); clear hq; rintro e w22 ⟨rfl, hb⟩; replace S := Sealed.mk (S.out.adv hb); clear hb)
                    | (have hq := lawSame_any (S.out.cnum 0 rfl) (HX.out.1 _ (r_chain9 HW.out S.out.below)).2; rw [decide_eq_true (rfl : x = x)] at hq; (with_reducible refine hq.mono ?_); clear hq; rintro e w22' ⟨rfl, hb⟩; replace S := Sealed.mk (S.out.adv hb); clear hb)))
                | (go_at_call 43; go_must (have hq := Height_any (HX.out.1 _ (r_chain9 HW.out S.out.below)).2; rw [← HS.out.2.2.1] at hq; (with_reducible refine hq.mono ?_); clear hq; rintro e w24 ⟨rfl, hb⟩; replace S := Sealed.mk (S.out.adv hb); clear hb))
                | (go_at_call 44; go_must (have hq := Weight_any (HX.out.1 _ (r_chain9 HW.out S.out.below)).2; rw [← HS.out.2.2.2] at hq; (with_reducible refine hq.mono ?_); clear hq; rintro e w25 ⟨rfl, hb⟩; replace S := Sealed.mk (S.out.adv hb); clear hb))
                | (go_at_call 45; go_must (have hq := distinct_len (HX.out.1 _ (r_chain9 HW.out S.out.below)).2; rw [← HS.out.2.2.2] at hq; (with_reducible refine hq.mono ?_); clear hq; rintro e w26 ⟨a26, c26, rfl, hb⟩; replace S := Sealed.mk (S.out.adv hb); clear hb)))
            all_goals
              go_wp2_with fail
              go_meet
              case rel => exact ⟨by first | rfl | simp, S.out.below⟩
          case rest =>
            obtain ⟨rfl, hb5⟩ := hcut
            obtain ⟨W6, hW6⟩ : ∃ W6, W6 = wc := ⟨_, rfl⟩
            rw [← hW6] at hb5 ⊢
            clear hW6 S
            replace HK := Sealed.mk (r_chain9 HK.out.1 hb5)
            replace HW := Sealed.mk (r_chain9 HW.out hb5)
            clear hb5
            have S := Sealed.mk (St.start W6).dr
            go_upto_region 23 with fail
            go_cut [172] from 145 to 172 (fun v wx => v = .bool false ∧ Below W6.heap.size W6 wx)
            case first =>
              by_cases hk0 : k = 0
              · subst hk0
                have hx0 : x = 0 := by
                  have h1 := HTN.out
                  have h2 := val_form x
                  have h3 : form x = [] := List.eq_nil_of_length_eq_zero h1.symm
                  rw [h3] at h2
                  exact h2.symm
                have hs0 : sx = 0 := by rw [HSX.out, hx0]; rfl
                subst hs0
                clear hx0
                refine wp_region_noPanic ?_
                refine wp_region_held_drew (S := fun W => W.cell? ⟨gl, i, none⟩ = some (.pointer px)) (by kernel_rfl) ?_ (fun hHeld => ?_)
                · exact (HX.out.1 _ (r_chain9 HW.out S.out.below)).1
                refine wpAnyH_take (i := 0) (v := ?_) rfl (by kernel_rfl) (by kernel_rfl) (by kernel_rfl) (fun _ _ _ h => h) (Or.inl ⟨by rfl, ?_⟩) (by assumption) ?_
                rotate_left
                · intro w hSw; (try dsimp only at hSw); go_simp; first | done | with_reducible rfl
                simp only [Act.put, List.getElem_toArray, List.getElem_cons_zero, List.getElem_cons_succ, List.setIfInBounds_toArray, List.set_cons_zero, List.set_cons_succ]
                refine wpAnyH_take (i := 1) (v := ?_) rfl (by kernel_rfl) (by kernel_rfl) (by kernel_rfl) (fun _ _ _ h => h) (Or.inl ⟨by rfl, ?_⟩) (by assumption) ?_
                rotate_left
                · intro w hSw; (try dsimp only at hSw); go_simp; first | done | with_reducible rfl
                simp only [Act.put, List.getElem_toArray, List.getElem_cons_zero, List.getElem_cons_succ, List.setIfInBounds_toArray, List.set_cons_zero, List.set_cons_succ]
                refine wpAnyH_take (i := 2) (v := ?_) rfl (by kernel_rfl) (by kernel_rfl) (by kernel_rfl) (fun _ _ _ h => h) (Or.inl ⟨by rfl, ?_⟩) (by assumption) ?_
                rotate_left
                · intro w hSw; (try dsimp only at hSw); go_simp; first | done | with_reducible rfl
                simp only [Act.put, List.getElem_toArray, List.getElem_cons_zero, List.getElem_cons_succ, List.setIfInBounds_toArray, List.set_cons_zero, List.set_cons_succ]
                refine wpAnyH_take (i := 3) (v := ?_) rfl (by kernel_rfl) (by kernel_rfl) (by kernel_rfl) (fun _ _ _ h => h) (Or.inl ⟨by rfl, ?_⟩) (by assumption) ?_
                rotate_left
                · intro w hSw; (try dsimp only at hSw); go_simp; first | done | with_reducible rfl
                simp only [Act.put, List.getElem_toArray, List.getElem_cons_zero, List.getElem_cons_succ, List.setIfInBounds_toArray, List.set_cons_zero, List.set_cons_succ]
                refine wpAnyH_take (i := 4) (v := undef) rfl (by kernel_rfl) (by kernel_rfl) (by kernel_rfl) (fun _ _ _ h => h) (Or.inr ⟨by rfl, rfl⟩) (by assumption) ?_
                simp only [Act.put, List.getElem_toArray, List.getElem_cons_zero, List.getElem_cons_succ, List.setIfInBounds_toArray, List.set_cons_zero, List.set_cons_succ]
                refine wpAnyH_take (i := 5) (v := undef) rfl (by kernel_rfl) (by kernel_rfl) (by kernel_rfl) (fun _ _ _ h => h) (Or.inr ⟨by rfl, rfl⟩) (by assumption) ?_
                simp only [Act.put, List.getElem_toArray, List.getElem_cons_zero, List.getElem_cons_succ, List.setIfInBounds_toArray, List.set_cons_zero, List.set_cons_succ]
                refine wpAnyH_take (i := 6) (v := undef) rfl (by kernel_rfl) (by kernel_rfl) (by kernel_rfl) (fun _ _ _ h => h) (Or.inr ⟨by rfl, rfl⟩) (by assumption) ?_
                simp only [Act.put, List.getElem_toArray, List.getElem_cons_zero, List.getElem_cons_succ, List.setIfInBounds_toArray, List.set_cons_zero, List.set_cons_succ]
                refine wpAnyH_take (i := 7) (v := undef) rfl (by kernel_rfl) (by kernel_rfl) (by kernel_rfl) (fun _ _ _ h => h) (Or.inr ⟨by rfl, rfl⟩) (by assumption) ?_
                simp only [Act.put, List.getElem_toArray, List.getElem_cons_zero, List.getElem_cons_succ, List.setIfInBounds_toArray, List.set_cons_zero, List.set_cons_succ]
                refine wpAnyH_take (i := 8) (v := ?_) rfl (by kernel_rfl) (by kernel_rfl) (by kernel_rfl) (fun _ _ _ h => h) (Or.inl ⟨by rfl, ?_⟩) (by assumption) ?_
                rotate_left
                · intro w hSw; (try dsimp only at hSw); go_simp; first | done | with_reducible rfl
                simp only [Act.put, List.getElem_toArray, List.getElem_cons_zero, List.getElem_cons_succ, List.setIfInBounds_toArray, List.set_cons_zero, List.set_cons_succ]
                refine wpAnyH_take (i := 9) (v := ?_) rfl (by kernel_rfl) (by kernel_rfl) (by kernel_rfl) (fun _ _ _ h => h) (Or.inl ⟨by rfl, ?_⟩) (by assumption) ?_
                rotate_left
                · intro w hSw; (try dsimp only at hSw); go_simp; first | done | with_reducible rfl
                simp only [Act.put, List.getElem_toArray, List.getElem_cons_zero, List.getElem_cons_succ, List.setIfInBounds_toArray, List.set_cons_zero, List.set_cons_succ]
                refine wpAnyH_take (i := 10) (v := ?_) rfl (by kernel_rfl) (by kernel_rfl) (by kernel_rfl) (fun _ _ _ h => h) (Or.inl ⟨by rfl, ?_⟩) (by assumption) ?_
                rotate_left
                · intro w hSw; (try dsimp only at hSw); go_simp; first | done | with_reducible rfl
                simp only [Act.put, List.getElem_toArray, List.getElem_cons_zero, List.getElem_cons_succ, List.setIfInBounds_toArray, List.set_cons_zero, List.set_cons_succ]
                refine wpAnyH_take (i := 11) (v := ?_) rfl (by kernel_rfl) (by kernel_rfl) (by kernel_rfl) (fun _ _ _ h => h) (Or.inl ⟨by rfl, ?_⟩) (by assumption) ?_
                rotate_left
                · intro w hSw; (try dsimp only at hSw); go_simp; first | done | with_reducible rfl
                simp only [Act.put, List.getElem_toArray, List.getElem_cons_zero, List.getElem_cons_succ, List.setIfInBounds_toArray, List.set_cons_zero, List.set_cons_succ]
                refine wpAnyH_take (i := 12) (v := ?_) rfl (by kernel_rfl) (by kernel_rfl) (by kernel_rfl) (fun _ _ _ h => h) (Or.inl ⟨by rfl, ?_⟩) (by assumption) ?_
                rotate_left
                · intro w hSw; (try dsimp only at hSw); go_simp; first | done | with_reducible rfl
                simp only [Act.put, List.getElem_toArray, List.getElem_cons_zero, List.getElem_cons_succ, List.setIfInBounds_toArray, List.set_cons_zero, List.set_cons_succ]
                refine wpAnyH_ready (rs := [13]) (by kernel_rfl) (by simp) ?_
                refine AllReadyH.cons rfl (fun K hK => ?_) AllReadyH.nil
                go_simp
                (with_reducible refine (HSG.out _ (HX.out.1 _ (r_chain9 HW.out S.out.below)).2).mono ?_); rintro e w23 ⟨rfl, hb⟩; replace S := Sealed.mk (S.out.adv hb); clear hb; go_wp2_with fail
                refine hK.out _ _ ?_ (fun hHeld => ?_)
                · exact (HX.out.1 _ (r_chain9 HW.out S.out.below)).1
                clear hK K
                try simp only [Act.put, List.getElem_toArray, List.getElem_cons_zero, List.getElem_cons_succ, List.setIfInBounds_toArray, List.set_cons_zero, List.set_cons_succ]
                refine wpAnyH_take (i := 14) (v := ?_) rfl (by kernel_rfl) (by kernel_rfl) (by kernel_rfl) (fun _ _ _ h => h) (Or.inl ⟨by rfl, ?_⟩) (by assumption) ?_
                rotate_left
                · intro w hSw; (try dsimp only at hSw); go_simp; first | done | with_reducible rfl
                simp only [Act.put, List.getElem_toArray, List.getElem_cons_zero, List.getElem_cons_succ, List.setIfInBounds_toArray, List.set_cons_zero, List.set_cons_succ]
                refine wpAnyH_take (i := 15) (v := ?_) rfl (by kernel_rfl) (by kernel_rfl) (by kernel_rfl) (fun _ _ _ h => h) (Or.inl ⟨by rfl, ?_⟩) (by assumption) ?_
                rotate_left
                · intro w hSw; (try dsimp only at hSw); go_simp; first | done | with_reducible rfl
                simp only [Act.put, List.getElem_toArray, List.getElem_cons_zero, List.getElem_cons_succ, List.setIfInBounds_toArray, List.set_cons_zero, List.set_cons_succ]
                refine wpAnyH_take (i := 16) (v := ?_) rfl (by kernel_rfl) (by kernel_rfl) (by kernel_rfl) (fun _ _ _ h => h) (Or.inl ⟨by rfl, ?_⟩) (by assumption) ?_
                rotate_left
                · intro w hSw; (try dsimp only at hSw); go_simp; first | done | with_reducible rfl
                simp only [Act.put, List.getElem_toArray, List.getElem_cons_zero, List.getElem_cons_succ, List.setIfInBounds_toArray, List.set_cons_zero, List.set_cons_succ]
                refine wpAnyH_take (i := 17) (v := ?_) rfl (by kernel_rfl) (by kernel_rfl) (by kernel_rfl) (fun _ _ _ h => h) (Or.inl ⟨by rfl, ?_⟩) (by assumption) ?_
                rotate_left
                · intro w hSw; (try dsimp only at hSw); go_simp; first | done | with_reducible rfl
                simp only [Act.put, List.getElem_toArray, List.getElem_cons_zero, List.getElem_cons_succ, List.setIfInBounds_toArray, List.set_cons_zero, List.set_cons_succ]
                refine wpAnyH_take (i := 18) (v := ?_) rfl (by kernel_rfl) (by kernel_rfl) (by kernel_rfl) (fun _ _ _ h => h) (Or.inl ⟨by rfl, ?_⟩) (by assumption) ?_
                rotate_left
                · intro w hSw; (try dsimp only at hSw); go_simp; first | done | with_reducible rfl
                simp only [Act.put, List.getElem_toArray, List.getElem_cons_zero, List.getElem_cons_succ, List.setIfInBounds_toArray, List.set_cons_zero, List.set_cons_succ]
                refine wpAnyH_take (i := 19) (v := ?_) rfl (by kernel_rfl) (by kernel_rfl) (by kernel_rfl) (fun _ _ _ h => h) (Or.inl ⟨by rfl, ?_⟩) (by assumption) ?_
                rotate_left
                · intro w hSw; (try dsimp only at hSw); go_simp; first | done | with_reducible rfl
                simp only [Act.put, List.getElem_toArray, List.getElem_cons_zero, List.getElem_cons_succ, List.setIfInBounds_toArray, List.set_cons_zero, List.set_cons_succ]
                refine wpAnyH_take (i := 20) (v := ?_) rfl (by kernel_rfl) (by kernel_rfl) (by kernel_rfl) (fun _ _ _ h => h) (Or.inl ⟨by rfl, ?_⟩) (by assumption) ?_
                rotate_left
                · intro w hSw; (try dsimp only at hSw); go_simp; first | done | with_reducible rfl
                simp only [Act.put, List.getElem_toArray, List.getElem_cons_zero, List.getElem_cons_succ, List.setIfInBounds_toArray, List.set_cons_zero, List.set_cons_succ]
                refine wpAnyH_take (i := 21) (v := ?_) rfl (by kernel_rfl) (by kernel_rfl) (by kernel_rfl) (fun _ _ _ h => h) (Or.inl ⟨by rfl, ?_⟩) (by assumption) ?_
                rotate_left
                · intro w hSw; (try dsimp only at hSw); go_simp; first | done | with_reducible rfl
                simp only [Act.put, List.getElem_toArray, List.getElem_cons_zero, List.getElem_cons_succ, List.setIfInBounds_toArray, List.set_cons_zero, List.set_cons_succ]
                refine wpAnyH_take (i := 22) (v := ?_) rfl (by kernel_rfl) (by kernel_rfl) (by kernel_rfl) (fun _ _ _ h => h) (Or.inl ⟨by rfl, ?_⟩) (by assumption) ?_
                rotate_left
                · intro w hSw; (try dsimp only at hSw); go_simp; first | done | with_reducible rfl
                simp only [Act.put, List.getElem_toArray, List.getElem_cons_zero, List.getElem_cons_succ, List.setIfInBounds_toArray, List.set_cons_zero, List.set_cons_succ]
                refine wpAnyH_take (i := 23) (v := ?_) rfl (by kernel_rfl) (by kernel_rfl) (by kernel_rfl) (fun _ _ _ h => h) (Or.inl ⟨by rfl, ?_⟩) (by assumption) ?_
                rotate_left
                · intro w hSw; (try dsimp only at hSw); go_simp; first | done | with_reducible rfl
                simp only [Act.put, List.getElem_toArray, List.getElem_cons_zero, List.getElem_cons_succ, List.setIfInBounds_toArray, List.set_cons_zero, List.set_cons_succ]
                refine wpAnyH_ready (rs := [24]) (by kernel_rfl) (by simp) ?_
                refine AllReadyH.cons rfl (fun K hK => ?_) AllReadyH.nil
                go_simp
                (with_reducible refine (HSG.out _ (HX.out.1 _ (r_chain9 HW.out S.out.below)).2).mono ?_); rintro e w23 ⟨rfl, hb⟩; replace S := Sealed.mk (S.out.adv hb); clear hb; go_wp2_with fail
                refine hK.out _ _ ?_ (fun hHeld => ?_)
                · exact (HX.out.1 _ (r_chain9 HW.out S.out.below)).1
                clear hK K
                try simp only [Act.put, List.getElem_toArray, List.getElem_cons_zero, List.getElem_cons_succ, List.setIfInBounds_toArray, List.set_cons_zero, List.set_cons_succ]
                refine wpAnyH_take (i := 25) (v := ?_) rfl (by kernel_rfl) (by kernel_rfl) (by kernel_rfl) (fun _ _ _ h => h) (Or.inl ⟨by rfl, ?_⟩) (by assumption) ?_
                rotate_left
                · intro w hSw; (try dsimp only at hSw); go_simp; first | done | with_reducible rfl
                simp only [Act.put, List.getElem_toArray, List.getElem_cons_zero, List.getElem_cons_succ, List.setIfInBounds_toArray, List.set_cons_zero, List.set_cons_succ]
                refine wpAnyH_take (i := 26) (v := ?_) rfl (by kernel_rfl) (by kernel_rfl) (by kernel_rfl) (fun _ _ _ h => h) (Or.inl ⟨by rfl, ?_⟩) (by assumption) ?_
                rotate_left
                · intro w hSw; (try dsimp only at hSw); go_simp; first | done | with_reducible rfl
                simp only [Act.put, List.getElem_toArray, List.getElem_cons_zero, List.getElem_cons_succ, List.setIfInBounds_toArray, List.set_cons_zero, List.set_cons_succ]
                refine wpAnyH_take (i := 27) (v := ?_) rfl (by kernel_rfl) (by kernel_rfl) (by kernel_rfl) (fun _ _ _ h => h) (Or.inl ⟨by rfl, ?_⟩) (by assumption) ?_
                rotate_left
                · intro w hSw; (try dsimp only at hSw); go_simp; first | done | with_reducible rfl
                simp only [Act.put, List.getElem_toArray, List.getElem_cons_zero, List.getElem_cons_succ, List.setIfInBounds_toArray, List.set_cons_zero, List.set_cons_succ]
                refine wpAnyH_done (by kernel_rfl) ?_ _
                refine NoPanic.normal ?_
                go_wp2_with fail
                go_meet
                case rel => exact ⟨by first | rfl | simp, S.out.below⟩
              · obtain ⟨⟨m0, e0⟩, ht0⟩ : ∃ t, (form x)[0]? = some t := ⟨_, List.getElem?_eq_getElem (by have := HTN.out; unfold wl at this; omega)⟩
                have hsm := sg_head ht0
                obtain ⟨gT, cT', eT⟩ := own_form HT.out.1.own (by rw [termsZ_length, ← HTN.out]; omega)
                obtain ⟨rfl, -, rfl⟩ := Value.slice.inj eT
                have htz : (termsZ x)[0]? = some (m0, (e0 : Int)) := by unfold termsZ; rw [List.getElem?_map, ht0]; rfl
                obtain ⟨q, d0, -, -⟩ := terms_get HT.out.1 htz
                have hC : ∀ W, Below W6.heap.size W6 W → W.cell? ⟨gT, 0, none⟩ = some (.bool m0) ∧ W.cell? ⟨gl, i, none⟩ = some (.pointer px) := fun W hb => ⟨(cell_same ((r_chain9 HK.out hb).block _ (lt_of_cell d0)) _).trans (by simpa using d0), (HX.out.1 _ (r_chain9 HW.out hb)).1⟩
                have HC := Sealed.mk hC
                have hkI : (0 : Int) < (k : Int) := by omega
                have hk1 : ¬ ((k : Int) = 0) := by omega
                have hkN : 0 < k := by omega
                have bK : decide ((0 : Int) < (k : Int)) = true := decide_eq_true hkI
                have bKn : decide (0 < k) = true := decide_eq_true hkN
                have hs1 : decide (sx < 0) = m0 := by rw [HSX.out, hsm]; cases m0 <;> simp
                have hs2 : (sx == 0) = false := by rw [HSX.out, hsm]; cases m0 <;> simp
                have hk2 : ((k : Int) == 0) = false := by simp; omega
                have hmm : (m0 != m0) = false := by simp
                clear hsm ht0 htz d0 hC eT hk0
                go_region_held3 (fun W => W.cell? ⟨gT, 0, none⟩ = some (.bool m0) ∧ W.cell? ⟨gl, i, none⟩ = some (.pointer px))
                  (exact HC.out _ S.out.below)
                  (first | (go_at_call 42; go_must ((with_reducible refine (HSG.out _ (HX.out.1 _ (r_chain9 HW.out S.out.below)).2).mono ?_); rintro e w27 ⟨rfl, hb⟩; replace S := Sealed.mk (S.out.adv hb); clear hb)))
                all_goals
                  go_wp2_with fail
                  go_meet
                  case rel => exact ⟨by first | rfl | simp, S.out.below⟩
            case rest =>
              obtain ⟨rfl, hb6⟩ := hcut
              obtain ⟨W7, hW7⟩ : ∃ W7, W7 = wc := ⟨_, rfl⟩
              rw [← hW7] at hb6 ⊢
              clear hW7 S HSG HSX HS HT HK
              replace HW := Sealed.mk (r_chain9 HW.out hb6)
              clear hb6
              go_wp2_with fail
              go_loopg [15] i (fun jj kv W => ∃ j : Nat, jj = i - j ∧ j ≤ i ∧ kv = .int .i64 (j : Int) ∧ Sealed (Below W2.heap.size W2 W))
              case atStart => exact ⟨0, rfl, Nat.zero_le _, rfl, HW⟩
              case round =>
                clear HW
                obtain ⟨j, rfl, hj, rfl, HJ⟩ := hrel
                by_cases hji : j < i
                · obtain ⟨py, y, hpy, hy, -, -⟩ := HL.out.2.1 j (by omega)
                  have HY := Sealed.mk (HL.out.1 j py y hpy hy)
                  obtain ⟨cc, hcc⟩ : ∃ c, c = sg (x - y) := ⟨_, rfl⟩
                  obtain ⟨dd, hdd⟩ : ∃ d, d = decide (x = y) := ⟨_, rfl⟩
                  have hcd : (cc == 0) = dd := by
                    rw [hcc, hdd]
                    rcases sg_cases (x - y) with ⟨h1, h2⟩ | ⟨h1, h2⟩ | ⟨h1, h2⟩ <;> rw [h2]
                    · rw [decide_eq_false (by omega)]; rfl
                    · rw [decide_eq_true (by omega)]; rfl
                    · rw [decide_eq_false (by omega)]; rfl
                  have HD := Sealed.mk (And.intro hcc hdd)
                  have hjI : (j : Int) < (i : Int) := by omega
                  have hjm : (j : Int) < (m : Int) := by omega
                  have hj1 : wrap64 ((j : Int) + 1) = (j : Int) + 1 := w64_in (by omega) (by omega)
                  have S := Sealed.mk (St.start wr).dr
                  clear hpy hy hcc hdd
                  go_upto_region 28 with fail
                  go_cut [197] from 178 to 197 (fun v wx => v = .bool false ∧ Below wr.heap.size wr wx)
                  case first =>
                    clear hj1
                    go_region_held3 (fun W => W.cell? ⟨gl, i, none⟩ = some (.pointer px) ∧ W.cell? ⟨gl, j, none⟩ = some (.pointer py))
                      (exact ⟨(HX.out.1 _ (r_chain9 HJ.out S.out.below)).1, (HY.out _ (r_chain9 HJ.out S.out.below)).1⟩)
                      (first
                        | (go_at_call 37; go_must (have hq := Cmp_any (HX.out.1 _ (r_chain9 HJ.out S.out.below)).2 (HY.out _ (r_chain9 HJ.out S.out.below)).2; rw [← HD.out.1] at hq; (with_reducible refine hq.mono ?_); clear hq; rintro e w28 ⟨rfl, hb⟩; replace S := Sealed.mk (S.out.adv hb); clear hb))
                        | (go_at_call 20; go_must (have hq := lawSame_any (HX.out.1 _ (r_chain9 HJ.out S.out.below)).2 (HY.out _ (r_chain9 HJ.out S.out.below)).2; rw [← HD.out.2] at hq; (with_reducible refine hq.mono ?_); clear hq; rintro e w29 ⟨rfl, hb⟩; replace S := Sealed.mk (S.out.adv hb); clear hb)))
                    all_goals
                      go_wp2_with fail
                      go_meet
                      case rel => exact ⟨by first | rfl | simp, S.out.below⟩
                  case rest =>
                    obtain ⟨rfl, hb7⟩ := hcut
                    have HE := Sealed.mk (r_chain9 HJ.out hb7)
                    clear hb7 S
                    go_wp2_with fail
                    go_roundg (i - (j + 1))
                    case measure => clear hj1; omega
                    case rel => exact ⟨j + 1, rfl, (by clear hj1; omega), by push_cast; rfl, HE⟩
                · obtain rfl : j = i := by omega
                  have hiw : wrap64 ((j : Int) + 1) = (j : Int) + 1 := w64_in (by omega) (by omega)
                  go_wp2_with fail
                  go_roundg (m - (j + 1))
                  case measure => clear hiw; omega
                  case rel => exact ⟨j + 1, rfl, (by clear hiw; omega), by push_cast; rfl, HJ⟩
    · obtain rfl : i = m := by clear hiw; omega
      clear hiw
      go_wp2_with (go_at_call 15; go_must ((with_reducible refine (awake1_any _).mono ?_); rintro e w99 ⟨rfl, hb⟩; have HE := Sealed.mk hb; clear hb))
      go_ret
      exact ⟨rfl, r_chain9 (r_chain9 HL.out.2.2 HB.out) HE.out⟩
end Go.Proofs.Ytgchfbfgjanaiaa
