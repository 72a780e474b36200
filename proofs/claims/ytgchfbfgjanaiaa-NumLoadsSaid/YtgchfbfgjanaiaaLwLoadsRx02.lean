/-
 (*sandreckonerref01.World).Load
 sandreckonerref01.New
 sandreckonerlaw01.NumLoads: the walk
 what a law reads: numbers; read again behind the call
 bytes that a law reads: opened
-/
import Derived.Test.YtgchfbfgjanaiaaLwLoadsRx01
import Derived.Test.YtgchfbfgjanaiaaB05
import Derived.Deep.LoopGhost
import Derived.Deep.DeepCutAuto
import Derived.Deep.CutRange
import Derived.Deep.CutBlock
import Derived.Test.YtgchfbfgjanaiaaB01
import Derived.Test.YtgchfbfgjanaiaaA35
import Derived.Test.YtgchfbfgjanaiaaA34
import Derived.Deep.RegionHeld3
import Derived.ProofKit
import Derived.OpenShut
import Derived.WideKeyArgs
import Derived.Deep.Slices
set_option linter.unusedSimpArgs false
set_option linter.unusedVariables false
namespace Go.Proofs.Ytgchfbfgjanaiaa
open Go.RowKit Sr
theorem rnumber_1 {N : Nat → Prop} {w : World} {rb : Nat} {l : List Int} {bad : Bool} (h : RdAt N w rb l bad) (hN : ¬ N rb) :
  Calls Try.prog 48 #[.pointer (some ⟨rb, 0, none⟩), .int .i64 1] w fun e w' => e = .returned (.int .i64 (rdN 1 l)) ∧ RdAt N w' rb (rdL 1 l) (rdB 1 l bad) ∧ Ext (fun q => q = rb) w w' := rnumber_any (n := 1) h hN (by decide) (by decide)
theorem rnumber_2 {N : Nat → Prop} {w : World} {rb : Nat} {l : List Int} {bad : Bool} (h : RdAt N w rb l bad) (hN : ¬ N rb) :
  Calls Try.prog 48 #[.pointer (some ⟨rb, 0, none⟩), .int .i64 2] w fun e w' => e = .returned (.int .i64 (rdN 2 l)) ∧ RdAt N w' rb (rdL 2 l) (rdB 2 l bad) ∧ Ext (fun q => q = rb) w w' := rnumber_any (n := 2) h hN (by decide) (by decide)
def RLoadOut (w : World) (b : RB) (l0 : List Int) (e : Ending) (w' : World) : Prop :=
 ∃ (j : Nat) (d : Bool) (nums vs' : List Int) (b' : RB), e = .returned (.tuple #[.int .i64 (j : Int), .bool d]) ∧ nums.length ≤ 2000 ∧ RStep (rldU nums) w w' b b' [0] vs' ∧
   ((d = true ∧ ∃ x, Allowed x ∧ bytesN x = l0 ∧ vs'[j]? = some x) ∨ (d = false ∧ ¬ ∃ x, Allowed x ∧ bytesN x = l0))
set_option maxRecDepth 100000 in
set_option maxHeartbeats 4000000 in
theorem rLoad_any {w : World} {b : RB} {U : List Int} {v : Value} {l0 : List Int} (h : RInv w b [0] U) (hv : BytesR w v l0) (hvM : l0 ≠ [] → ∀ q, v.ownBlock = some q → ¬ b.M q) (hl0 : l0.length ≤ 3000) :
  Calls Try.prog 17 #[.pointer (some ⟨b.p, 0, none⟩), v] w (RLoadOut w b l0) := by
 obtain ⟨va, vc, rfl, hvc, hvcell⟩ := hv.at_
 obtain ⟨nl, hnl⟩ : ∃ nl, nl = l0.length := ⟨_, rfl⟩
 rw [← hnl] at hvc ⊢
 obtain ⟨rb, hrb⟩ : ∃ k, k = w.heap.size := ⟨_, rfl⟩
 obtain ⟨W1, hW1⟩ : ∃ W1, W1 = w.alloc (.cells #[.slice va nl vc, .bool false] 91) := ⟨_, rfl⟩
 have hb1 : Below w.heap.size w W1 := by rw [hW1]; exact (Below.refl _ _).alloc (Nat.le_refl _) _
 have hbk1 : W1.heap[rb]? = some (.cells #[.slice va nl vc, .bool false] 91 (0, 0)) := by rw [hW1, hrb]; exact blk_alloc _ _
 have hNrb : ¬ oldN w b rb := fun hh => by have := hh.1; omega
 have hrd1 : RdAt (oldN w b) W1 rb l0 false := by
  refine ⟨hv.range, by omega, va, vc, by rw [← hnl]; exact hbk1, by omega, fun hl => ?_⟩
  obtain ⟨bb, o, rfl, q2, q4⟩ := hvcell hl
  have hb := hb1.block bb q2
  exact ⟨bb, o, rfl, ⟨q2, hvM hl bb rfl⟩, by have := hb1.size; omega, fun i x hx => (cell_same hb _).trans (q4 i x hx)⟩
 have hi1 : RInv w b [0] (rldU []) := ⟨h.cl, fun x hx => by simp at hx; subst hx; simp [rldU], rldU_length (by simp), h.forms⟩
 have hst1 : RStep (rldU []) w W1 b b [0] [0] := RStep.kept hi1 hb1
 have hrb2 : w.heap.size ≤ rb := by omega
 have N1 := Sealed.mk (rnumber_2 hrd1 hNrb)
 have H := Sealed.mk (And.intro hv (And.intro hnl (And.intro hl0 (And.intro hrb2 (And.intro hi1 (And.intro hst1 (And.intro hbk1 (And.intro hNrb hvM))))))))
 clear hvcell hvc hrd1 hi1 hst1 hb1 hbk1 hrb2 h hv hl0 hnl hNrb hvM
 go_enter Try.func17, Try.ntmps17
 go_upto_region 2 with fail
 rw [← hW1, ← hrb]
 clear hW1 hrb
 go_upto_region 4 with (go_at_call 48; go_must ((with_reducible refine N1.out.mono ?_); rintro e w2 ⟨rfl, hr2, hx2⟩; have R2 := Sealed.mk (And.intro hr2 hx2); clear hr2 hx2))
 obtain ⟨W3, hW3⟩ : ∃ W3, W3 = w2.alloc (.cells #[] 3) := ⟨_, rfl⟩
 obtain ⟨gl, hgl⟩ : ∃ g, g = w2.heap.size := ⟨_, rfl⟩
 obtain ⟨c, hc, hc9⟩ : ∃ c : Nat, rdN 2 l0 = (c : Int) ∧ c < 65536 := by
  have := rdN_range H.out.1.range (i := 2) (by decide)
  exact ⟨(rdN 2 l0).toNat, by omega, by omega⟩
 obtain ⟨bad0, hbad0⟩ : ∃ b0, b0 = rdB 2 l0 false := ⟨_, rfl⟩
 obtain ⟨left0, hleft0⟩ : ∃ l, l = rdL 2 l0 := ⟨_, rfl⟩
 have hld3 : RLD w W3 b b rb [] [0] (.slice (some ⟨gl, 0, none⟩) 0 0) left0 bad0 := by
  have hb3 : Below w2.heap.size w2 W3 := by rw [hW3]; exact (Below.refl _ _).alloc (Nat.le_refl _) _
  have hrdt : TyBlk W1 rb 91 := ⟨_, _, H.out.2.2.2.2.2.2.1⟩
  have hst2 := H.out.2.2.2.2.2.1.oth R2.out.2 (fun q hq => by rw [hq]; exact H.out.2.2.2.1) fun q hq t h' => by rw [hq] at h'; rw [ty_same h' hrdt]; decide
  have hsz : w.heap.size ≤ w2.heap.size := hst2.ext.size
  refine ⟨hst2.trans (RStep.kept hst2.inv hb3), ?_, ?_, H.out.2.2.2.1, fun y hy => by simp at hy, fun y hy => by simp at hy⟩
  ·rw [hW3, hgl]
   exact own_empty hsz #[] rfl
  ·rw [hbad0, hleft0]
   exact R2.out.1.keep (M := noB) (Ext.of_below hb3) (fun h => h) (fun _ h _ => h)
 have htr0 : (bad0 = true → c = 0 ∧ ¬ ∃ x, Allowed x ∧ bytesN x = l0) ∧ (bad0 = false → Tr l0 c [] left0 ∧ left0.length ≤ 3000) := by
  have hll := H.out.2.2.1
  by_cases hs : l0.length < 2
  ·obtain ⟨e1, e2, e3⟩ := rd_short hs
   rw [hbad0, e2]
   refine ⟨fun _ => ⟨by omega, fun hx => ?_⟩, fun e => by simp at e⟩
   have := tr_start hx; omega
  ·obtain ⟨e1, e2, e3⟩ := rd_two (l := l0) (by omega)
   rw [hbad0, e3]
   refine ⟨fun e => by simp at e, fun _ => ⟨?_, by rw [hleft0]; have := rdL_len 2 l0; omega⟩⟩
   have := tr_zero l0
   rw [hleft0, e2]
   rw [e1] at hc
   rw [hc] at this
   simpa using this
 have HL := Sealed.mk (And.intro hld3 htr0)
 rw [← hW3, ← hgl, hc]
 clear hW3 hgl hld3 htr0 hbad0 hleft0 R2 N1 hc
 go_wp2_with fail
 go_loopg [8, 9] c (fun jj pv iv W => ∃ (j : Nat) (nums vs1 left : List Int) (b1 : RB) (bad : Bool) (pa : Option Addr) (pc : Nat), jj = c - j ∧ j ≤ c ∧ iv = .int .i64 (j : Int) ∧ pv = .slice pa j pc ∧ Sealed (RLD w W b b1 rb nums vs1 (.slice pa j pc) left bad ∧ nums.length = j ∧ (bad = true → c = 0 ∧ ¬ ∃ x, Allowed x ∧ bytesN x = l0) ∧ (bad = false → Tr l0 c nums left ∧ 2 * j + left.length ≤ 3000)))
 case atStart => exact ⟨0, [], [0], _, b, bad0, _, 0, rfl, Nat.zero_le _, rfl, rfl, ⟨HL.out.1, rfl, HL.out.2.1, fun e => ⟨(HL.out.2.2 e).1, by have := (HL.out.2.2 e).2; omega⟩⟩⟩
 case round =>
  clear HL
  obtain ⟨j, nums, vs1, left, b1, bad, pa, pc, rfl, hj, rfl, rfl, HJ⟩ := hrel
  obtain ⟨la, lc, hl1, hl2, hl3⟩ := HJ.out.1.rd.var
  have g1 : wr.cell? ⟨rb, 1, none⟩ = some (.bool bad) := (cell_of_blk hl1 1).trans rfl
  clear hl1 hl2 hl3
  by_cases hjc : j < c
  ·obtain rfl : bad = false := by
    cases bad
    ·rfl
    ·have := (HJ.out.2.2.1 rfl).1; omega
   obtain ⟨htr, hlen⟩ := HJ.out.2.2.2 rfl
   have HT := Sealed.mk (And.intro htr hlen); clear htr hlen
   have hjcI : (j : Int) < (c : Int) := by omega
   go_upto_region 7 with fail
   obtain ⟨W7, hW7⟩ : ∃ W7, W7 = wr.alloc (.cells #[] 49) := ⟨_, rfl⟩
   obtain ⟨gt, hgt⟩ : ∃ g, g = wr.heap.size := ⟨_, rfl⟩
   have hk7 : RLK w W7 b b1 rb nums vs1 (.slice pa j pc) left false [] (.slice (some ⟨gt, 0, none⟩) 0 0) := by
    have hb7 : Below wr.heap.size wr W7 := by rw [hW7]; exact (Below.refl _ _).alloc (Nat.le_refl _) _
    refine ⟨HJ.out.1.adv hb7, ?_, fun t ht => by simp at ht, fun q hq hh => ?_⟩
    ·rw [hW7, hgt]
     exact own_empty HJ.out.1.st.ext.size #[] rfl
    ·obtain rfl : gt = q := Option.some.inj hq
     have h2 := (HJ.out.1.st.inv.inForms (forms_keep hb7 HJ.out.1.st.inv hh)).1
     omega
   have K7 := Sealed.mk hk7
   have N7 := Sealed.mk (rnumber_2 hk7.ld.rd H.out.2.2.2.2.2.2.2.1)
   go_upto_region 8 with fail
   rw [← hW7, ← hgt]
   clear hW7 hk7 g1 hgt
   obtain ⟨tn, htn, htn9⟩ : ∃ c : Nat, rdN 2 left = (c : Int) ∧ c < 65536 := by
    have := rdN_range HJ.out.1.rd.range (i := 2) (by decide)
    exact ⟨(rdN 2 left).toNat, by omega, by omega⟩
   obtain ⟨bad1, hbad1⟩ : ∃ b0, b0 = rdB 2 left false := ⟨_, rfl⟩
   obtain ⟨left1, hleft1⟩ : ∃ l, l = rdL 2 left := ⟨_, rfl⟩
   have htk : (bad1 = true → ¬ ∃ x, Allowed x ∧ bytesN x = l0) ∧ (bad1 = false → TrK l0 c nums tn 0 [] left1 ∧ 3 * 0 + 2 * j + 2 + left1.length ≤ 3000) := by
    obtain ⟨p1, p2⟩ := HT.out.1.part (by have := HJ.out.2.1; omega)
    have hll := HT.out.2
    by_cases hs : left.length < 2
    ·obtain ⟨e1, e2, e3⟩ := rd_short hs
     rw [hbad1, e2]
     refine ⟨fun _ hx => ?_, fun e => by simp at e⟩
     have := p2 hx; omega
    ·obtain ⟨e1, e2, e3⟩ := rd_two (l := left) (by omega)
     rw [hbad1, e3]
     refine ⟨fun e => by simp at e, fun _ => ⟨?_, ?_⟩⟩
     ·rw [hleft1, e2]
      rw [e1] at htn
      rw [htn] at p1
      simpa using p1
     ·have h1 : (rdL 2 left).length + 2 = left.length := by
       unfold rdL; rw [if_neg (by omega), List.length_drop]; omega
      rw [hleft1]; omega
   have HK := Sealed.mk htk
   rw [htn] at N7
   rw [← hbad1, ← hleft1] at N7
   clear htk htn hbad1 hleft1
   go_wp2_with (go_at_call 48; go_must ((with_reducible refine N7.out.mono ?_); rintro e w8 ⟨rfl, hr8, hx8⟩; have K8 := Sealed.mk (K7.out.read hx8 hr8); clear hr8 hx8))
   clear N7 K7
   go_loopg [10, 11] tn (fun jj lv kv W => ∃ (k r : Nat) (tl : List (Bool × Int)) (left2 : List Int) (bad2 : Bool) (ra : Option Addr) (rc : Nat), jj = r ∧ k + r = tn ∧ kv = .int .i64 (r : Int) ∧ lv = .slice ra k rc ∧ Sealed (RLK w W b b1 rb nums vs1 (.slice pa j pc) left2 bad2 tl (.slice ra k rc) ∧ tl.length = k ∧ k ≤ 1001 ∧ (bad2 = true → ¬ ∃ x, Allowed x ∧ bytesN x = l0) ∧ (bad2 = false → TrK l0 c nums tn k tl left2 ∧ 3 * k + 2 * j + 2 + left2.length ≤ 3000)))
   case atStart => exact ⟨0, tn, [], _, bad1, _, 0, rfl, by omega, rfl, rfl, ⟨K8.out, rfl, by omega, HK.out⟩⟩
   case round =>
    clear K8 HK
    obtain ⟨k, r, tl, left2, bad2, ra, rc, hjj, hkr, rfl, rfl, HR⟩ := hrel
    replace hjj := hjj.symm
    subst hjj
    obtain ⟨la, lc, hl1, hl2, hl3⟩ := HR.out.1.ld.rd.var
    have g1 : wr.cell? ⟨rb, 1, none⟩ = some (.bool bad2) := (cell_of_blk hl1 1).trans rfl
    clear hl1 hl2 hl3
    cases bad2 with
    | true =>
      have HO : Sealed (RLoadOut w b l0 (.returned (.tuple #[.int .i64 0, .bool false])) wr) := ⟨0, false, nums, vs1, b1, rfl, by have := HT.out.2; have := HJ.out.2.1; omega, HR.out.1.ld.st, .inr ⟨rfl, HR.out.2.2.2.1 rfl⟩⟩
      by_cases hr0 : r = 0
      ·subst hr0
       go_wp2_with fail
       refine bodyPost_ret (v := .tuple #[.int .i64 0, .bool false]) (by simp [results, Try.results17, go_sem]) rfl HO.out
      ·have hr1 : (0 : Int) < (r : Int) := by omega
       go_wp2_with fail
       refine bodyPost_ret (v := .tuple #[.int .i64 0, .bool false]) (by simp [results, Try.results17, go_sem]) rfl HO.out
    | false =>
      obtain ⟨htk, hlen⟩ := HR.out.2.2.2.2 rfl
      by_cases hr0 : r = 0
      ·subst hr0
       obtain rfl : k = tn := by omega
       obtain ⟨hfz, htr2⟩ := htk.done
       have htlk := HR.out.2.1
       have hown := HR.out.1.own
       rw [htlk] at hown
       have hel : (encZ vs1 tl).length = k := by rw [encZ_length, htlk]
       have htl : RTL wr (.slice ra k rc) (encZ vs1 tl) := by
        have h2 := RTL.of_own (B := w.heap.size) (w := wr) (v := .slice ra k rc) (l := encZ vs1 tl) (by rw [hel]; exact hown) (by rw [hel]; have := HR.out.2.2.1; omega)
        exact h2
       have hfm := rformed_any HR.out.1.ld.st.inv htl (fun t ht => HR.out.1.ld.mem _ (HR.out.1.mem t ht)) (fun t ht h0 => goodR_next HR.out.1.ld.good (by rw [show ((t.2.toNat : Nat) : Int) = t.2 by omega]; exact HR.out.1.mem t ht))
       rw [HR.out.1.ld.st.p] at hfm
       have HFM := Sealed.mk hfm
       have HZ := Sealed.mk (And.intro hfz (And.intro htr2 (And.intro hlen htl)))
       clear hfm hfz htr2 hown hel htl htlk htk hlen
       go_upto_region 15 with fail
       go_cut [78] from 69 to 78 (fun v78 wx => ∃ vs2 b2 d, v78 = .bool (!d) ∧ (d = true ↔ FormedZ tl) ∧ RStep (rldU nums) wr wx b1 b2 vs1 vs2)
       case first =>
        go_wp2_with (go_at_call 49; go_must ((with_reducible refine HFM.out.mono ?_); rintro e w9 ⟨vs2, b2, d, rfl, hd, hs⟩; have H9 := Sealed.mk (And.intro hd hs); clear hd hs))
        go_meet
        case rel => exact ⟨vs2, b2, d, rfl, H9.out.1, H9.out.2⟩
       case rest =>
        obtain ⟨vs2, b2, d, rfl, hd, hs⟩ := hcut
        clear HFM
        have K2 := Sealed.mk (HR.out.1.step rfl hs)
        cases d with
        | false =>
          have hno : ¬ ∃ x, Allowed x ∧ bytesN x = l0 := fun hx => by have := hd.2 (HZ.out.1 hx); simp at this
          have HO : Sealed (RLoadOut w b l0 (.returned (.tuple #[.int .i64 0, .bool false])) wc) := ⟨0, false, nums, vs2, b2, rfl, by have := HT.out.2; have := HJ.out.2.1; omega, K2.out.ld.st, .inr ⟨rfl, hno⟩⟩
          clear hno hs hd
          simp only [Bool.not_false]
          go_wp2_with fail
          refine bodyPost_ret (v := .tuple #[.int .i64 0, .bool false]) (by simp [results, Try.results17, go_sem]) rfl HO.out
        | true =>
          have hfo := hd.1 rfl
          have hnl3 : nums.length ≤ 2999 := by have := HT.out.2; have := HJ.out.2.1; omega
          have hinv2 : RInv wc b2 vs2 (rldU (nums ++ [zval tl])) := K2.out.ld.st.inv.more (fun _ hx => rldU_mono hx) (rldU_length (by simp; omega))
          have hencp : encZ vs2 tl = encZ vs1 tl := encZ_prefix hs.pre fun t ht => HR.out.1.ld.mem _ (HR.out.1.mem t ht)
          have htl2 : RTL wc (.slice ra k rc) (enc vs2 (zval tl)) := by
           rw [encZ_enc hfo, hencp]
           exact HZ.out.2.2.2.afterZ hs HR.out.1.ld.st.inv
          have hcov2 : CovL vs2 (form (zval tl)) := fun t ht => by
           obtain ⟨s, hs', e⟩ := exps_zval hfo (mem_exps.2 ⟨t, ht, rfl⟩)
           rw [← e]
           exact K2.out.ld.mem _ (K2.out.mem s hs')
          have hat := rAt_at hinv2 htl2 hcov2 (rldU_mem (by simp))
          rw [K2.out.ld.st.p] at hat
          have HAT := Sealed.mk hat
          have HF := Sealed.mk hfo
          clear hat hfo hinv2 hencp htl2 hcov2 hs hd
          have hown2 := K2.out.ld.own
          rw [HJ.out.2.1] at hown2
          have O2 := Sealed.mk hown2; clear hown2
          simp only [Bool.not_true]
          go_wp2_with (first
           | (go_at_call 50; go_must ((with_reducible refine HAT.out.mono ?_); rintro e w10 ⟨vs3, b3, iy, rfl, hx3, hs3⟩; have hown3 := own_ext O2.out hs3.ext (fun q hq => K2.out.ld.st.inv.notM (own_ty9 O2.out hq) (by decide) (by decide)); have H10 := Sealed.mk (And.intro hx3 (And.intro hs3 hown3)); clear hx3 hs3 hown3))
           | (at_builtin; go_must (refine ap_litp (m := 1) el_int (.tmp 79) (.tmp 83) rfl rfl rfl H10.out.2.2 rfl (by simp) rfl (by decide) ?g1 ?g2 ?g3 ?g4)))
          case g1 => simp [Value.oneCell']
          case g2 => omega
          case g3 => exact Nat.le_trans K2.out.ld.st.ext.size H10.out.2.1.ext.size
          case g4 =>
           intro g11 c11 w11 ho11 hg11 hn11
           have H11 := Sealed.mk (And.intro ho11 (And.intro hg11 hn11)); clear ho11 hg11 hn11
           go_wp2_with fail
           go_roundg (c - (j + 1))
           case measure => omega
           case rel =>
            refine ⟨j + 1, nums ++ [zval tl], vs3, left2, b3, false, _, _, rfl, by omega, by push_cast; rfl, rfl, ⟨?_, by rw [List.length_append, HJ.out.2.1]; rfl, fun e => by simp at e, fun _ => ⟨HZ.out.2.1, by have := HZ.out.2.2.1; omega⟩⟩⟩
            have hiy : iy = vs3.idxOf (zval tl) := (idxOf_of H10.out.2.1.inv.cl.nodup H10.out.1).symm
            refine K2.out.ld.push (by have := HT.out.2; have := HJ.out.2.1; omega) H10.out.2.1 (List.mem_of_getElem? H10.out.1) (by rw [wl_zval HF.out, HR.out.2.1]; have := HZ.out.2.2.1; omega) (fun e he => ?_) H11.out.2.1 ?_
            ·obtain ⟨s, hs', e'⟩ := exps_zval HF.out he
             rw [← e']
             exact K2.out.mem s hs'
            ·rw [HJ.out.2.1, ← hiy]
             exact H11.out.1
      ·obtain ⟨r', rfl⟩ : ∃ r', r = r' + 1 := ⟨r - 1, by omega⟩
       have hrr := trk_read htk (by omega)
       rw [HJ.out.2.1] at hrr
       obtain ⟨s, hs⟩ : ∃ s, s = rdN 1 left2 := ⟨_, rfl⟩
       obtain ⟨left3, hl3⟩ : ∃ l, l = rdL 1 left2 := ⟨_, rfl⟩
       obtain ⟨bad3, hb3⟩ : ∃ b, b = rdB 1 left2 false := ⟨_, rfl⟩
       obtain ⟨left4, hl4⟩ : ∃ l, l = rdL 2 left3 := ⟨_, rfl⟩
       obtain ⟨bad4, hb4⟩ : ∃ b, b = rdB 2 left3 bad3 := ⟨_, rfl⟩
       have hs9 := rdN_range HR.out.1.ld.rd.range (i := 1) (by decide)
       have hrg3 : ∀ x ∈ left3, 0 ≤ x ∧ x < 256 := fun x hx => by
        rw [hl3] at hx
        unfold rdL at hx
        split at hx
        ·exact HR.out.1.ld.rd.range x hx
        ·exact HR.out.1.ld.rd.range x (List.mem_of_mem_drop hx)
       obtain ⟨q, hq, hq9⟩ : ∃ q : Nat, rdN 2 left3 = (q : Int) ∧ q < 65536 := by
        have := rdN_range hrg3 (i := 2) (by decide)
        exact ⟨(rdN 2 left3).toNat, by omega, by omega⟩
       have N9 := Sealed.mk (rnumber_1 HR.out.1.ld.rd H.out.2.2.2.2.2.2.2.1)
       have N10 := Sealed.mk (fun W (h : RdAt (oldN w b) W rb left3 bad3) => rnumber_2 h H.out.2.2.2.2.2.2.2.1)
       rw [← hs, ← hl3, ← hb3] at N9
       rw [hq, ← hl4, ← hb4] at N10
       rw [← hs, ← hl3, ← hb3, hq, ← hl4, ← hb4] at hrr
       rw [← hs] at hs9
       have HP := Sealed.mk (And.intro hrr hlen)
       have hq0 : (0 : Int) ≤ (q : Int) := by omega
       have hr0 : (0 : Int) < (r' : Int) + 1 := by omega
       clear hrr hlen hs hl3 hb3 hl4 hb4 hrg3 hq htk
       go_upto_region 12 with (go_at_call 48; go_must (first
        | ((with_reducible refine N9.out.mono ?_); rintro e w9 ⟨rfl, hr9, hx9⟩; have K9 := Sealed.mk (HR.out.1.read hx9 hr9); clear hr9 hx9)
        | ((with_reducible refine (N10.out _ K9.out.ld.rd).mono ?_); rintro e w10 ⟨rfl, hr10, hx10⟩; have K10 := Sealed.mk (K9.out.read hx10 hr10); clear hr10 hx10)))
       clear N9 N10 K9 g1
       have hn2 : nums.length ≤ 2000 := by have := HT.out.2; have := HJ.out.2.1; omega
       by_cases h1 : 1 < s
       ·have d1 : decide (1 < s) = true := decide_eq_true h1
        have HO : Sealed (RLoadOut w b l0 (.returned (.tuple #[.int .i64 0, .bool false])) w10) := ⟨0, false, nums, vs1, b1, rfl, hn2, K10.out.ld.st, .inr ⟨rfl, HP.out.1.1 (.inl h1)⟩⟩
        clear h1 hs9
        go_wp2_with fail
        refine bodyPost_ret (v := .tuple #[.int .i64 0, .bool false]) (by simp [results, Try.results17, go_sem]) rfl HO.out
       ·have d1 : decide (1 < s) = false := decide_eq_false h1
        by_cases h2 : j ≤ q
        ·have h2I : (j : Int) ≤ (q : Int) := by omega
         have HO : Sealed (RLoadOut w b l0 (.returned (.tuple #[.int .i64 0, .bool false])) w10) := ⟨0, false, nums, vs1, b1, rfl, hn2, K10.out.ld.st, .inr ⟨rfl, HP.out.1.1 (.inr h2I)⟩⟩
         clear h1 hs9
         go_wp2_with fail
         refine bodyPost_ret (v := .tuple #[.int .i64 0, .bool false]) (by simp [results, Try.results17, go_sem]) rfl HO.out
        ·have hqj : (q : Int) < (j : Int) := by omega
         obtain ⟨z, hz⟩ : ∃ z, nums[q]? = some z := ⟨_, List.getElem?_eq_getElem (by have := HJ.out.2.1; omega)⟩
         obtain ⟨iz, hiz⟩ : ∃ iz, iz = vs1.idxOf z := ⟨_, rfl⟩
         have hown10 := K10.out.ld.own
         rw [HJ.out.2.1] at hown10
         obtain ⟨pg, pcap, epa⟩ := own_form hown10 (by omega)
         obtain ⟨rfl, -, rfl⟩ := Value.slice.inj epa
         have c9 : w10.cell? ⟨pg, q, none⟩ = some (.int .i64 (iz : Int)) := own_cell hown10 rfl (by unfold icells; rw [List.getElem?_map, List.getElem?_map, hz, hiz]; rfl)
         obtain ⟨m, hm⟩ : ∃ m, m = decide (s = 1) := ⟨_, rfl⟩
         have hse : (s == 1) = m := by rw [hm]; rfl
         have ho10 := K10.out.own
         rw [HR.out.2.1] at ho10
         have hkk : k ≤ 1000 := by have := HP.out.2; omega
         have HQ := Sealed.mk (And.intro hz (And.intro hiz (And.intro hm (And.intro ho10 (And.intro h1 h2)))))
         have hsz := K10.out.ld.st.ext.size
         have hw1 : wrap64 ((r' : Int) + 1 - 1) = (r' : Int) := by rw [Int.add_sub_cancel]; exact w64_in (by omega) (by omega)
         have hw2 : wrap64 (r' : Int) = (r' : Int) := w64_in (by omega) (by omega)
         clear hz hiz hm ho10 h1 h2 hs9 epa hown10
         go_wp2_with (at_builtin; go_must (refine ap_litp (m := 1) el_rterm (.tmp 59) (.tmp 67) rfl rfl rfl HQ.out.2.2.2.1 rfl (by simp) rfl (by decide) ?g1 ?g2 ?g3 ?g4))
         case g1 => simp [Value.oneCell']
         case g2 => clear hw1 hw2; omega
         case g4 =>
          intro g11 c11 w11 ho11 hg11 hn11
          have H11 := Sealed.mk (And.intro ho11 (And.intro hg11 hn11)); clear ho11 hg11 hn11
          go_wp2_with fail
          go_roundg r'
          case measure => clear hw1 hw2; omega
          case rel =>
           refine ⟨k + 1, r', tl ++ [(decide (s = 1), z)], left4, bad4, _, _, rfl, (by clear hw1 hw2; omega), by rw [hw2], rfl, ⟨?_, by rw [List.length_append, HR.out.2.1]; rfl, (by clear hw1 hw2; omega), HP.out.1.2.1, fun e => ⟨(HP.out.1.2.2 e).2 q z rfl HQ.out.1, ?_⟩⟩⟩
           ·rw [← HQ.out.2.2.1]
            refine K10.out.push (List.mem_of_getElem? HQ.out.1) H11.out.2.1 H11.out.2.2 ?_
            rw [HR.out.2.1, ← HQ.out.2.1]
            exact H11.out.1
           ·clear hw1 hw2
            have := (HP.out.1.2.2 e).1; have := HP.out.2; omega
  ·obtain rfl : j = c := by omega
   have hnn := HJ.out.2.1
   cases bad with
   | true =>
     have hj0 := (HJ.out.2.2.1 rfl).1
     have HO : Sealed (RLoadOut w b l0 (.returned (.tuple #[.int .i64 0, .bool false])) wr) := ⟨0, false, nums, vs1, b1, rfl, by omega, HJ.out.1.st, .inr ⟨rfl, (HJ.out.2.2.1 rfl).2⟩⟩
     clear hj0 hnn
     go_wp2_with fail
     refine bodyPost_ret (v := .tuple #[.int .i64 0, .bool false]) (by simp [results, Try.results17, go_sem]) rfl HO.out
   | false =>
     obtain ⟨htr, hlen⟩ := HJ.out.2.2.2 rfl
     by_cases hj0 : j = 0
     ·subst hj0
      have hno : ¬ ∃ x, Allowed x ∧ bytesN x = l0 := fun ⟨x, hx, hb⟩ => by have := (htr x hx hb).1; unfold weight at this; omega
      have HO : Sealed (RLoadOut w b l0 (.returned (.tuple #[.int .i64 0, .bool false])) wr) := ⟨0, false, nums, vs1, b1, rfl, by omega, HJ.out.1.st, .inr ⟨rfl, hno⟩⟩
      clear htr hlen hnn hno
      go_wp2_with fail
      refine bodyPost_ret (v := .tuple #[.int .i64 0, .bool false]) (by simp [results, Try.results17, go_sem]) rfl HO.out
     ·obtain ⟨j', rfl⟩ : ∃ j', j = j' + 1 := ⟨j - 1, by omega⟩
      obtain ⟨y, hy⟩ : ∃ y, nums[j']? = some y := ⟨_, List.getElem?_eq_getElem (by omega)⟩
      have hlast : ∀ x, Allowed x → bytesN x = l0 → y = x := fun x hx hb => htr.last hnn hx hb hy
      have hyv := HJ.out.1.mem y (List.mem_of_getElem? hy)
      obtain ⟨iy, hiy⟩ : ∃ iy, iy = vs1.idxOf y := ⟨_, rfl⟩
      have hyi : vs1[iy]? = some y := by rw [hiy]; exact idxOf_get hyv
      have hown := HJ.out.1.own
      rw [hnn] at hown
      obtain ⟨pg, pcap, epa⟩ := own_form hown (by omega)
      obtain ⟨rfl, -, rfl⟩ := Value.slice.inj epa
      have c9 : wr.cell? ⟨pg, j', none⟩ = some (.int .i64 (iy : Int)) := own_cell hown rfl (by unfold icells; rw [List.getElem?_map, List.getElem?_map, hy, hiy]; rfl)
      have hbv : BytesR wr (.slice va nl vc) l0 := by
       rw [H.out.2.1]
       exact H.out.1.far HJ.out.1.st.ext fun hl q hq _ => H.out.2.2.2.2.2.2.2.2 hl q hq
      have hn2 : nums.length ≤ 2000 := by omega
      have hj1 : (j' : Int) < (j' : Int) + 1 := by omega
      have hw4 : wrap64 (j' : Int) = (j' : Int) := w64_in (by omega) (by omega)
      have hw5 : IntKind.i64.wrap (j' : Int) = (j' : Int) := i64_in (by omega) (by omega)
      have hj0' : (0 : Int) ≤ (j' : Int) := by clear hw4 hw5; omega
      have P := Sealed.mk HJ.out.1.st
      have V := Sealed.mk hbv
      have HY := Sealed.mk (And.intro hyi (And.intro hlast hn2))
      clear hbv hyi hlast hn2 htr hlen hnn hy hyv hiy hown epa hj0
      by_cases hal : Allowed y
      ·have HA := Sealed.mk hal; clear hal
       go_wp2_with (first
        | (go_at_call 29; go_must (have hq := rAllowed_any P.out.inv HY.out.1; rw [P.out.p] at hq; (with_reducible refine hq.mono ?_); clear hq; rintro e w6 ⟨⟨d6, rfl, hd6⟩, hb6⟩; obtain rfl : d6 = true := hd6.2 HA.out; replace P := Sealed.mk (P.out.trans (RStep.kept P.out.inv hb6)); replace V := Sealed.mk (V.out.below hb6); clear hd6 hb6))
        | (go_at_call 51; go_must (have hq := rBytes_at P.out.inv HY.out.1 HA.out; rw [P.out.p] at hq; (with_reducible refine hq.mono ?_); clear hq; rintro e w7 ⟨a7, c7, rfl, hby, hb7⟩; replace P := Sealed.mk (P.out.trans (RStep.kept P.out.inv hb7)); replace V := Sealed.mk (V.out.below hb7); have Y := Sealed.mk hby; clear hby hb7))
        | (go_at_call 19; go_must ((with_reducible refine (Same_raw Y.out.raw V.out).mono ?_); rintro e w8 ⟨rfl, rfl⟩)))
       refine bodyPost_ret (v := .tuple #[.int .i64 (iy : Int), .bool (decide (bytesN y = l0))]) (by simp [results, Try.results17, go_sem]) rfl ?_
       clear hw4 hw5
       by_cases hbl : bytesN y = l0
       ·exact ⟨iy, true, nums, vs1, b1, by rw [decide_eq_true hbl], HY.out.2.2, P.out, .inl ⟨rfl, y, HA.out, hbl, HY.out.1⟩⟩
       ·exact ⟨iy, false, nums, vs1, b1, by rw [decide_eq_false hbl], HY.out.2.2, P.out, .inr ⟨rfl, fun ⟨x, hx, hb⟩ => hbl (by rw [HY.out.2.1 x hx hb]; exact hb)⟩⟩
      ·have HA := Sealed.mk hal; clear hal
       go_wp2_with (go_at_call 29; go_must (have hq := rAllowed_any P.out.inv HY.out.1; rw [P.out.p] at hq; (with_reducible refine hq.mono ?_); clear hq; rintro e w6 ⟨⟨d6, rfl, hd6⟩, hb6⟩; obtain rfl : d6 = false := (by cases d6; rfl; exact absurd (hd6.1 rfl) HA.out); replace P := Sealed.mk (P.out.trans (RStep.kept P.out.inv hb6)); clear hd6 hb6))
       refine bodyPost_ret (v := .tuple #[.int .i64 (iy : Int), .bool false]) (by simp [results, Try.results17, go_sem]) rfl ?_
       exact ⟨iy, false, nums, vs1, b1, rfl, HY.out.2.2, P.out, .inr ⟨rfl, fun ⟨x, hx, hb⟩ => HA.out (by rw [HY.out.2.1 x hx hb]; exact hx)⟩⟩
end Go.Proofs.Ytgchfbfgjanaiaa

namespace Go.Proofs.Ytgchfbfgjanaiaa
open Go.RowKit Sr
set_option maxRecDepth 100000 in
theorem rNew_any {w : World} {U : List Int} (h0 : (0 : Int) ∈ U) (hU : U.length ≤ roomW) :
  Calls Try.prog 16 #[] w fun e w' => ∃ b, e = .returned (.pointer (some ⟨b.p, 0, none⟩)) ∧ RInv w' b [0] U ∧ Below w.heap.size w w' ∧ (∀ k, b.M k → w.heap.size ≤ k) ∧ ∀ q, ¬ InForms w' b [0] q := by
 go_enter Try.func16, Try.ntmps16
 go_wp2_with fail
 go_ret
 have hP : (w.alloc (.cells #[.slice none 0 0] 42)).heap.size = w.heap.size + 1 := by simp
 have b0 : ((w.alloc (.cells #[.slice none 0 0] 42)).alloc (.cells #[.slice (some ⟨w.heap.size, 0, none⟩) 1 1] 88)).heap[w.heap.size]? = some (.cells #[.slice none 0 0] 42 (0, 0)) := blk_alloc_old (blk_alloc _ _) _
 have b1 : ((w.alloc (.cells #[.slice none 0 0] 42)).alloc (.cells #[.slice (some ⟨w.heap.size, 0, none⟩) 1 1] 88)).heap[w.heap.size + 1]? = some (.cells #[.slice (some ⟨w.heap.size, 0, none⟩) 1 1] 88 (0, 0)) := by
  rw [← hP]; exact blk_alloc _ _
 have henc : enc [0] 0 = [] := by simp [enc, form_zero]
 refine ⟨⟨w.heap.size + 1, w.heap.size⟩, by simp, ⟨?_, ?_, hU, ?_⟩, ?_, ?_, ?_⟩
 ·refine ⟨rfl, by simp, ?_⟩
  intro i x hx t ht
  cases i with
  | zero => simp at hx; subst hx; rw [form_zero] at ht; simp at ht
  | succ i => simp at hx
 ·intro x hx; simp at hx; subst hx; exact h0
 ·refine ⟨1, #[.slice none 0 0], b1, b0, by simp, by decide, rfl, ?_⟩
  intro i x hx
  cases i with
  | zero =>
    simp at hx; subst hx
    refine ⟨_, rfl, ?_, fun k hk => by simp [Value.ownBlock] at hk⟩
    rw [henc]
    exact RTL.nil _
  | succ i => simp at hx
 ·exact r_al (r_al (Below.refl _ _))
 ·intro k hk
  unfold RB.M at hk
  simp only at hk
  omega
 ·rintro q ⟨i, v, hi, hc, hv⟩
  simp only [List.length_singleton] at hi
  obtain rfl : i = 0 := by omega
  simp only at hc
  rw [cell_of_blk b0] at hc
  simp at hc
  subst hc
  simp [Value.ownBlock] at hv
end Go.Proofs.Ytgchfbfgjanaiaa

namespace Go.Proofs.Ytgchfbfgjanaiaa
open Go.RowKit Sr
theorem loadR_yes {l : List Int} {x : Int} (h : Allowed x) (e : bytesN x = l) : loadR l = (x, 0) := by
 have hx : ∃ y, Allowed y ∧ bytesN y = l := ⟨x, h, e⟩
 unfold loadR
 rw [dif_pos hx, bytesN_inj hx.choose_spec.1 h (hx.choose_spec.2.trans e.symm)]
theorem loadR_no {l : List Int} (h : ¬ ∃ x, Allowed x ∧ bytesN x = l) : loadR l = (0, 2) := by unfold loadR; rw [dif_neg h]
def U8Own (W : World) (B g n c : Nat) (us : List Value) : Prop := W.ownsRow B 5 1 (.slice (some ⟨g, 0, none⟩) n c) n us ∧ us.length = n ∧ ∀ u ∈ us, ∃ z : Int, u = .int .u8 z
set_option maxRecDepth 100000 in
set_option maxHeartbeats 4000000 in
theorem lawLoads_any {w : World} {v : Value} {l0 : List Int} (hv : BytesR w v l0) : Calls Try.prog 3 #[v] w fun e w' => e = .returned (.bool true) ∧ Below w.heap.size w w' := by
 have hvo := hv.lt
 obtain ⟨va, vc, rfl, hvc, hvcell⟩ := hv.at_
 obtain ⟨n, hn⟩ : ∃ n, n = l0.length := ⟨_, rfl⟩
 have H := Sealed.mk (And.intro hv (And.intro hvo hn))
 rw [← hn] at hvc ⊢
 clear hvcell hv hvo hn
 by_cases hn3 : 3000 < n
 ·have hn3I : (3000 : Int) < (n : Int) := by omega
  go_enter Try.func3, Try.ntmps3
  go_wp2_with (go_at_call 15; go_must ((with_reducible refine (awake1_any _).mono ?_); rintro e w9 ⟨rfl, hb⟩; have HB := Sealed.mk hb; clear hb))
  go_ret
  exact ⟨rfl, HB.out⟩
 ·have hn3I : ¬ (3000 : Int) < (n : Int) := by omega
  have hn4 : n ≤ 3000 := by omega
  obtain ⟨zz, ez, hzz⟩ : ∃ zz ez, loadR l0 = (zz, ez) := ⟨_, _, rfl⟩
  have hnw := rNew_any (w := w) (U := rldU []) (by simp [rldU]) (rldU_length (by simp))
  have HNW := Sealed.mk (And.intro hnw hzz)
  clear hnw hzz
  go_enter Try.func3, Try.ntmps3
  go_upto_region 4 with (go_at_call 16; go_must ((with_reducible refine HNW.out.1.mono ?_); rintro e w1 ⟨b, rfl, hi, hb, hM, hf⟩; have HN := Sealed.mk (And.intro hi (And.intro hb hM)); clear hi hb hM hf))
  have hbv1 : BytesR w1 (.slice va n vc) l0 := by rw [H.out.2.2]; exact H.out.1.below HN.out.2.1
  have hld := rLoad_any HN.out.1 hbv1 (fun hl q hq hm => by
   have h1 := H.out.2.1 hl q (by rw [← H.out.2.2]; exact hq)
   have h2 := HN.out.2.2 q hm
   omega) (by rw [← H.out.2.2]; exact hn4)
  have HLD := Sealed.mk (And.intro hld hbv1)
  clear hld hbv1
  go_upto_region 5 with (go_at_call 17; go_must ((with_reducible refine HLD.out.1.mono ?_); rintro e w2 ⟨jv, dd, nums, vs2, b2, rfl, hnn, hst, hres⟩; have HS := Sealed.mk (And.intro hnn (And.intro hst hres)); clear hnn hst hres))
  have hbel2 : Below w.heap.size w w2 := below_ext HN.out.2.1 HS.out.2.1.ext HN.out.2.2
  have hbv2 : BytesR w2 (.slice va n vc) l0 := by rw [H.out.2.2]; exact H.out.1.below hbel2
  have HB2 := Sealed.mk (And.intro hbel2 hbv2)
  clear hbel2 hbv2 HLD
  go_cut [6] from 21 to 23 (fun ov wx => ∃ g c, ov = .slice (some ⟨g, 0, none⟩) n c ∧ wx.ownsRow w2.heap.size 5 1 (.slice (some ⟨g, 0, none⟩) n c) n (u8s l0) ∧ Below w2.heap.size w2 wx)
  case first =>
   obtain ⟨W3, hW3⟩ : ∃ W3, W3 = w2.alloc (.cells #[] 5) := ⟨_, rfl⟩
   have hb3 : Below w2.heap.size w2 W3 := by rw [hW3]; exact (Below.refl _ _).alloc (Nat.le_refl _) _
   have ho3 : W3.ownsRow w2.heap.size 5 1 (.slice (some ⟨w2.heap.size, 0, none⟩) 0 0) 0 [] := by rw [hW3]; exact own_empty (Nat.le_refl _) #[] rfl
   have H3 := Sealed.mk (And.intro hb3 ho3)
   by_cases hn0 : n = 0
   ·subst hn0
    have hl0 : l0 = [] := List.eq_nil_of_length_eq_zero H.out.2.2.symm
    clear hb3 ho3
    rw [hW3] at H3
    go_wp2_with (at_builtin; go_must (refine ap_none el_u8 (.tmp 21) (.tmp 22) rfl rfl rfl (Nat.le_refl _) rfl ?_))
    go_wp2_with fail
    go_meet
    case rel => exact ⟨_, _, rfl, by rw [hl0]; exact H3.out.2, H3.out.1⟩
   ·obtain ⟨a', c', e1, q1, q2⟩ := (HB2.out.2.below hb3).at_
    rw [← H.out.2.2] at e1
    obtain ⟨bb, oo, rfl, hbl, hcell⟩ := q2 (fun e => by have := H.out.2.2; rw [e] at this; exact hn0 this)
    obtain ⟨rfl, -, rfl⟩ := Value.slice.inj e1
    have HC := Sealed.mk hcell
    clear hcell q1 q2 e1 hb3 ho3
    have hul : (u8s l0).length = n * 1 := by rw [H.out.2.2]; simp [u8s]
    rw [hW3] at H3 HC
    have HU := Sealed.mk hul; clear hul
    go_wp2_with (at_builtin; go_must (refine ap_blk (m := n) el_u8 (.tmp 21) (.tmp 22) rfl rfl rfl H3.out.2 rfl HU.out ?g0 ?g1 ?g2 ?g3 ?g4))
    case g0 => intro j u hu; unfold u8s at hu; rw [List.getElem?_map] at hu; obtain ⟨z, hz, rfl⟩ := Option.map_eq_some_iff.1 hu; exact HC.out j z hz
    case g1 => intro u hu; obtain ⟨q, -, rfl⟩ := List.mem_map.1 hu; rfl
    case g2 => omega
    case g3 => exact H3.out.1.size
    case g4 =>
     intro v5 w5 ho5 hg5 hn5
     try rw [Nat.zero_add] at ho5
     obtain ⟨g5, c5, rfl⟩ := own_form ho5 (by omega)
     have HO := Sealed.mk (And.intro ho5 hg5); clear ho5 hg5 hn5
     go_wp2_with fail
     go_meet
     case rel => exact ⟨g5, c5, rfl, by simpa using HO.out.1, H3.out.1.grown HO.out.2 H3.out.1.size fun q hq => own_ge H3.out.2 q hq⟩
  case rest =>
   obtain ⟨g, c, rfl, ho, hb⟩ := hcut
   obtain ⟨W3, hW3⟩ : ∃ W3, W3 = wc := ⟨_, rfl⟩
   rw [← hW3] at ho hb ⊢
   clear hW3
   obtain ⟨U, hU⟩ : ∃ U, U = rldU nums ++ [(2 : Int) ^ 63, -(2 : Int) ^ 63] := ⟨_, rfl⟩
   have hUl : U.length ≤ roomW := by
    have h1 := covR_length (natsP nums) 200
    have h2 : (natsP nums).length ≤ nums.length := by unfold natsP; rw [List.length_map]; exact List.length_filter_le _ _
    have h3 := HS.out.1
    rw [hU]
    unfold rldU roomW
    simp only [List.length_cons, List.length_append, List.length_nil]
    generalize (covR (natsP nums) 200).length = a at h1 ⊢
    generalize (natsP nums).length = c at h1 h2
    omega
   have hinv2 : RInv w2 b2 vs2 U := HS.out.2.1.inv.more (fun x hx => by rw [hU]; exact List.mem_append.2 (.inl hx)) hUl
   have hcov : ∀ x ∈ covR [] 0, x ∈ U := fun x hx => by
    rw [hU]
    refine List.mem_append.2 (.inl (rldU_cov ?_))
    unfold covR at hx
    simp at hx
    obtain ⟨a, ha, rfl⟩ := hx
    exact covR_low (by omega)
   have h63 : (2 : Int) ^ 63 ∈ U ∧ -(2 : Int) ^ 63 ∈ U := by rw [hU]; simp
   have hM3 : ∀ q, b2.M q → w.heap.size ≤ q := fun q hq => by
    rcases HS.out.2.1.news q hq with h1 | h1
    ·exact HN.out.2.2 q h1
    ·exact Nat.le_trans HN.out.2.1.size h1
   have hp2 : b2.p = b.p := HS.out.2.1.p
   have hbel3 : Below w.heap.size w W3 := r_chain HB2.out.1 hb
   have hby3 : BytesAt W3 (.slice (some ⟨g, 0, none⟩) n c) l0 := by
    have := BytesAt.of_own (B := w2.heap.size) (w := W3) (v := .slice (some ⟨g, 0, none⟩) n c) (l := l0) (by rw [← H.out.2.2]; exact ho) H.out.1.range (by rw [← H.out.2.2]; omega)
    exact this
   have hge : w2.heap.size ≤ g := own_ge ho g rfl
   have HU := Sealed.mk (And.intro hcov (And.intro h63.1 h63.2))
   have HI := Sealed.mk (And.intro (RStep.kept hinv2 hb) (And.intro hM3 (And.intro hp2 hge)))
   have HO := Sealed.mk (And.intro ho hby3)
   have hbv3 : BytesR W3 (.slice va n vc) l0 := by rw [H.out.2.2]; exact H.out.1.below hbel3
   have HV := Sealed.mk hbv3
   clear hcov h63 hinv2 hM3 hp2 hbel3 ho hby3 hge hU hUl hbv3 hb
   go_upto_region 7 with (go_at_call 18; go_must ((with_reducible refine (Load_two HNW.out.2 HO.out.2).mono ?_); rintro e w4 ⟨p4, rfl, hb4, hn4'⟩; have H4 := Sealed.mk (And.intro hb4 hn4'); clear hb4 hn4'))
   obtain ⟨W5, hW5⟩ : ∃ W5, W5 = w4.alloc (.cells #[.pointer p4] 30) := ⟨_, rfl⟩
   obtain ⟨kx, hkx⟩ : ∃ k, k = w4.heap.size := ⟨_, rfl⟩
   rw [← hW5, ← hkx]
   have hb5 : Below W3.heap.size W3 W5 := by rw [hW5]; exact r_al H4.out.1
   have hbk5 : W5.heap[kx]? = some (.cells #[.pointer p4] 30 (0, 0)) := by rw [hW5, hkx]; exact blk_alloc _ _
   have hn5 : NumIs W5 (.agg #[.pointer p4]) zz := by rw [hW5]; exact H4.out.2.below (below_new _ _)
   have ho5 := own_ext HO.out.1 (Ext.of_below (M := noB) hb5) (fun _ _ h => h)
   have hT5 : TS U w2 W5 b2 b2 vs2 vs2 kx p4 zz := ⟨HI.out.1.trans (RStep.kept HI.out.1.inv hb5), hbk5, hn5⟩
   have T := Sealed.mk hT5
   have HO5 := Sealed.mk (And.intro ho5 (And.intro (HO.out.2.below hb5) (HV.out.below hb5)))
   clear hW5 hkx hb5 hbk5 hn5 ho5 hT5 H4
   have dS : decide (l0 = l0) = true := by simp
   go_upto_region 9 with (go_at_call 19; go_must (have hq := Same_raw HO5.out.2.1.raw HO5.out.2.2; rw [dS] at hq; (with_reducible refine hq.mono ?_); clear hq; rintro e w6 ⟨rfl, hw6⟩; rw [hw6]; clear hw6))
   have hu8 : U8Own W5 w2.heap.size g n c (u8s l0) := ⟨HO5.out.1, by rw [H.out.2.2]; simp [u8s], fun u hu => by obtain ⟨q, -, rfl⟩ := List.mem_map.1 hu; exact ⟨_, rfl⟩⟩
   have HW := Sealed.mk hu8
   clear hu8 dS
   go_wp2_with fail
   go_loopg [9] n (fun jj iv W => ∃ (i : Nat) (us : List Value), jj = n - i ∧ i ≤ n ∧ iv = .int .i64 (i : Int) ∧ Sealed (U8Own W w2.heap.size g n c us ∧ Ext (fun q => q = g) W5 W))
   case atStart => exact ⟨0, _, rfl, Nat.zero_le _, rfl, ⟨HW.out, Ext.refl _ _⟩⟩
   case round =>
    clear HW
    obtain ⟨i, us, rfl, hi, rfl, HR⟩ := hrel
    have hiw : wrap64 ((i : Int) + 1) = (i : Int) + 1 := by unfold wrap64; omega
    by_cases hin : i < n
    ·obtain ⟨u, hu⟩ : ∃ u, us[i]? = some u := ⟨_, List.getElem?_eq_getElem (by rw [HR.out.1.2.1]; exact hin)⟩
     obtain ⟨z, rfl⟩ := HR.out.1.2.2 u (List.mem_of_getElem? hu)
     have c0 : wr.cell? ⟨g, i, none⟩ = some (.int .u8 z) := own_cell HR.out.1.1 rfl hu
     have f0 : wr.frozen? ⟨g, i, none⟩ = false := by
      obtain ⟨cs, -, e⟩ := own_typ5 HR.out.1.1 (q := g) rfl
      exact frozen_of_blk e i
     have hinI : (i : Int) < (n : Int) := by omega
     clear hu
     go_wp2_with fail
     go_roundg (n - (i + 1))
     case measure => clear hiw; omega
     case rel =>
      refine ⟨i + 1, us.set i (.int .u8 _), rfl, (by clear hiw; omega), by push_cast; rfl, ⟨⟨own_set HR.out.1.1 (b := g) rfl (j := i) (by clear hiw; omega) _, by rw [List.length_set]; exact HR.out.1.2.1, fun u hu => ?_⟩, HR.out.2.setCell (p := ⟨g, i, none⟩) (.inl rfl) _⟩⟩
      rcases List.mem_or_eq_of_mem_set hu with h | h
      ·exact HR.out.1.2.2 u h
      ·exact ⟨_, h⟩
    ·obtain rfl : i = n := by clear hiw; omega
     clear hiw
     obtain ⟨W7, hW7⟩ : ∃ W7, W7 = wr := ⟨_, rfl⟩
     rw [← hW7] at HR ⊢
     clear hW7
     have hty : TyBlk W5 g 5 := by
      exact own_ty9 HO5.out.1 rfl
     have hst7 : TS U w2 W7 b2 b2 vs2 vs2 kx p4 zz := by
      refine ⟨T.out.st.oth HR.out.2 (fun q hq => by rw [hq]; exact HI.out.2.2.2) (fun q hq t ht => by rw [hq] at ht; rw [ty_same ht hty]; decide), HR.out.2.get T.out.blk (fun e => ?_), T.out.num.apart (fun q hq t ht => by rw [hq] at ht; rw [ty_same ht hty]; decide) HR.out.2⟩
      have h1 : TyBlk W5 g 30 := ⟨_, _, by rw [← e]; exact T.out.blk⟩
      exact absurd (ty_same h1 hty) (by decide)
     have hv7 : BytesR W7 (.slice va i vc) l0 := HO5.out.2.2.far HR.out.2 fun hl q hq _ he => by
      have h1 := H.out.2.1 hl q (by rw [← H.out.2.2]; exact hq)
      have h2 := HI.out.2.2.2
      have h3 := HB2.out.1.size
      omega
     replace T := Sealed.mk hst7
     have V := Sealed.mk hv7
     have hend : ∀ {W : World} {b9 : RB} {vs9 : List Int}, TS U w2 W b2 b9 vs2 vs9 kx p4 zz → Below w.heap.size w W := fun h9 => below_ext HB2.out.1 h9.st.ext HI.out.2.1
     have HEND := Sealed.mk @hend
     clear hend hst7 hv7 hty HR HO5
     by_cases hex : ∃ x, Allowed x ∧ bytesN x = l0
     ·obtain ⟨x, hx, hbx⟩ := hex
      have hzz := HNW.out.2
      rw [loadR_yes hx hbx] at hzz
      obtain ⟨rfl, rfl⟩ := Prod.mk.inj hzz
      have hres : dd = true ∧ vs2[jv]? = some x := by
       rcases HS.out.2.2 with ⟨h1, y, hy, hby, h2⟩ | ⟨-, h2⟩
       ·rw [bytesN_inj hy hx (hby.trans hbx.symm)] at h2
        exact ⟨h1, h2⟩
       ·exact absurd ⟨x, hx, hbx⟩ h2
      obtain ⟨rfl, hjv⟩ := hres
      have HX := Sealed.mk (And.intro hx (And.intro hbx hjv))
      clear hx hbx hjv hzz
      have c0 := T.out.cell
      have dS : decide (l0 = l0) = true := by simp
      go_wp2_with (first
       | (go_at_call 22; go_must (have hq := lawTells_any HU.out.1 HU.out.2.1 HU.out.2.2 T.out.num T.out.st.inv (pre_get T.out.st.pre HX.out.2.2); rw [T.out.st.p, HI.out.2.2.1] at hq; (with_reducible refine hq.mono ?_); clear hq; rintro e w8 ⟨rfl, vs8, b8, hs8⟩; replace V := Sealed.mk (V.out.far hs8.ext fun hl q hq _ hm => (by rcases T.out.st.news q hm with h1 | h1; (have h2 := HI.out.2.1 q h1; have h3 := H.out.2.1 hl q (by rw [← H.out.2.2]; exact hq); omega); (have h2 := HB2.out.1.size; have h3 := H.out.2.1 hl q (by rw [← H.out.2.2]; exact hq); omega))); replace T := Sealed.mk (T.out.step hs8); have c8 := T.out.cell; clear hs8))
       | (go_at_call 23; go_must ((with_reducible refine (Bytes_at T.out.num).mono ?_); rintro e w9 ⟨a9, c9, rfl, hby, hb9⟩; replace T := Sealed.mk (T.out.adv hb9); replace V := Sealed.mk (V.out.below hb9); have Y := Sealed.mk hby; clear hby hb9))
       | (go_at_call 19; go_must (have hq := Same_raw Y.out.raw V.out; rw [decide_eq_true HX.out.2.1] at hq; (with_reducible refine hq.mono ?_); clear hq; rintro e w10 ⟨rfl, rfl⟩))
       | (go_at_call 15; go_must ((with_reducible refine (awake1_any _).mono ?_); rintro e w999 ⟨rfl, hb⟩; replace T := Sealed.mk (T.out.adv hb); clear hb)))
      go_ret
      exact ⟨rfl, HEND.out T.out⟩
     ·have hzz := HNW.out.2
      rw [loadR_no hex] at hzz
      obtain ⟨rfl, rfl⟩ := Prod.mk.inj hzz
      obtain rfl : dd = false := by
       rcases HS.out.2.2 with ⟨h1, y, hy, hby, h2⟩ | ⟨h1, -⟩
       ·exact absurd ⟨y, hy, hby⟩ hex
       ·exact h1
      have OF0 := Sealed.mk (fun W => Of_one (n := 0) (by unfold Is64; decide) W)
      clear hzz hex
      go_upto_region 14 with fail
      replace T := Sealed.mk (T.out.adv (below_drew _))
      go_region_held3 (fun W => W.cell? ⟨kx, 0, none⟩ = some (.pointer p4))
       (exact T.out.cell)
       (first
        | (go_at_call 21; go_must ((with_reducible refine (OF0.out _).mono ?_); rintro e w11 ⟨p11, rfl, hb, hn⟩; replace T := Sealed.mk (T.out.adv hb); have N0 := Sealed.mk hn; clear hb hn))
        | (go_at_call 20; go_must (have hq := lawSame_any T.out.num N0.out; rw [decide_eq_true (rfl : (0 : Int) = 0)] at hq; (with_reducible refine hq.mono ?_); clear hq; rintro e w12 ⟨rfl, hb⟩; replace T := Sealed.mk (T.out.adv hb); clear hb))
        | (go_at_call 15; go_must ((with_reducible refine (awake1_any _).mono ?_); rintro e w999 ⟨rfl, hb⟩; replace T := Sealed.mk (T.out.adv hb); clear hb)))
      all_goals
       go_wp2_with fail
       go_ret
       exact ⟨rfl, HEND.out T.out⟩
end Go.Proofs.Ytgchfbfgjanaiaa

namespace Go.Proofs.Ytgchfbfgjanaiaa.RowK
open Go.ChangeShapes Go.WideShapes Go.ChangeAt Go.RowKit Sr
set_option linter.unusedVariables false
theorem laid : laidOutB Try.prog = true := by kernel_rfl
section
variable {H : Type} {enc : TypeId × Value → H} {W : World} {base : Nat} {sp : Nat → Bool} {held : Bool}
theorem add_off (b o i : Nat) : (⟨b, o, none⟩ : Addr).add i = ⟨b, o + i, none⟩ := by unfold Addr.add; split <;> simp_all
theorem again {W' : World} {t : TypeId} (hr : Try.prog.readableRec t = true) (hrow : t < Try.prog.types.size) {v : Value} {d : DataW H} {ps : List MemPlace} {sp' : Nat → Bool} (h : DataW.Trod enc Try.prog W 0 (fun _ => true) true t v d ps)
  (hlt : ∀ p ∈ ps, p.block < W.heap.size) (hb : Below W.heap.size W W') (hs : ∀ p ∈ ps, sp' p.block = true) : DataW.Trod enc Try.prog W' 0 sp' true t v d ps :=
 Go.WideElems.Trod_stays laid hr hrow h (fun p hp => hb.same (hlt p hp)) hs
theorem wfu8 {n : Int} (h : (Lit.int .u8 n).wf = true) : 0 ≤ n ∧ n ≤ 255 := by
 have := h
 simp [Lit.wf, go_sem] at this
 exact this
end
end Go.Proofs.Ytgchfbfgjanaiaa.RowK

namespace Go.Proofs.Ytgchfbfgjanaiaa.RowK
open Go.ChangeShapes Go.WideShapes Go.ChangeAt Go.RowKit Sr
set_option linter.unusedVariables false
section
variable {H : Type} {enc : TypeId × Value → H} {W : World} {base : Nat} {sp : Nat → Bool} {held : Bool}
theorem cells_u8 : Try.prog.cellsOf 5 = 1 := by kernel_rfl
theorem wfu8' {n : Int} (h : (Lit.int .u8 n).wf = true) : 0 ≤ n ∧ n < 256 := by have := wfu8 h; omega
theorem open_bytes {v : Value} {d : DataW H} {p : List MemPlace} (hv : ∃ a n c, v = .slice a n c) (h : DataW.Trod enc Try.prog W 0 (fun _ => true) true 22 v d p) : ∃ l, BytesR W v l := by
 obtain ⟨a, n, c, rfl⟩ := hv
 obtain ⟨fuel, h⟩ := h
 rcases Go.Deep.open_slice Try.underlying22 h with ⟨e, -⟩ | ⟨a', len, cap, m, k, D, Pl, e, -, hl, hm, hmc, -, hel⟩
 ·simp [Value.cells] at e
  obtain ⟨rfl, rfl, rfl⟩ := e
  exact ⟨[], fun t ht => by simp at ht, none, 0, rfl, Nat.le_refl _, fun hne => absurd rfl hne⟩
 ·simp [Value.cells] at e
  obtain ⟨rfl, rfl, rfl⟩ := e
  simp only [if_true] at hmc
  subst hmc
  rw [cells_u8] at hel
  have key : ∀ i, i < n → ∃ t : Int, (0 ≤ t ∧ t < 256) ∧ a'.spot = none ∧ a'.block < W.heap.size ∧ W.cell? ⟨a'.block, a'.off + i, none⟩ = some (.int .u8 t) := fun i hi => by
   obtain ⟨cs, h1, h2⟩ := hel i (by omega)
   obtain ⟨z, rfl, -, hw⟩ := DataW.trod_int Try.underlying5 h2
   obtain ⟨-, -, hc⟩ := World.cells?_some h1
   have c0 := hc 0 (by decide)
   have hs0 : a'.spot = none := by
    obtain ⟨cs0, g1, g2⟩ := hel 0 (by omega)
    obtain ⟨z0, rfl, -, -⟩ := DataW.trod_int Try.underlying5 g2
    obtain ⟨-, -, gc⟩ := World.cells?_some g1
    exact World.cell?_spot (by simpa [Addr.add] using gc 0 (by decide))
   obtain ⟨ab, ao, as_⟩ := a'
   simp only at hs0
   subst hs0
   rw [add_off] at c0
   rw [add_off] at c0
   have c0' : W.cell? ⟨ab, ao + i, none⟩ = some (.int .u8 z) := by simpa using c0
   exact ⟨z, wfu8' hw, rfl, lt_of_cell c0', c0'⟩
  obtain ⟨f, hf⟩ := Go.Deep.choose_lt key
  refine ⟨(List.range n).map f, fun t ht => ?_, some a', _, by simp; rfl, by simpa using hl, fun hne => ?_⟩
  ·obtain ⟨i, hi, rfl⟩ := List.mem_map.1 ht
   exact (hf i (List.mem_range.1 hi)).1
  ·have hn : 0 < n := by
    rcases Nat.eq_zero_or_pos n with h0 | h0
    ·subst h0; exact absurd rfl hne
    ·exact h0
   obtain ⟨ab, ao, as_⟩ := a'
   obtain ⟨-, hs, hb, -⟩ := hf 0 hn
   simp only at hs
   subst hs
   refine ⟨ab, ao, rfl, hb, fun i t ht => ?_⟩
   have hi : i < n := by
    have := (List.getElem?_eq_some_iff.1 ht).1
    simpa using this
   rw [List.getElem?_map, List.getElem?_range hi] at ht
   simp at ht
   subst ht
   exact (hf i hi).2.2.2
end
end Go.Proofs.Ytgchfbfgjanaiaa.RowK
