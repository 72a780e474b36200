/-
 (*sandreckonerref01.World).Bytes
 what a law's walk holds: the numbers that are known, the cells of the variables
 sandreckonerref01.Same
 sandreckonerlaw01: same, modest
 a term of the call's own; the type of a block of the call's own
 sandreckonerlaw01.tells
-/
import Derived.Test.YtgchfbfgjanaiaaB05
import Derived.Deep.LoopGhost
import Derived.Deep.DeepCutAuto
import Derived.Deep.CutBlock
import Derived.Deep.CutRange
import Derived.Deep.RegionLaw
import Derived.BigRegion
import Derived.Test.YtgchfbfgjanaiaaA34
import Derived.Test.YtgchfbfgjanaiaaA32
import Derived.Test.YtgchfbfgjanaiaaB04
import Derived.Test.YtgchfbfgjanaiaaA30
import Derived.Deep.RegionHeld3
import Derived.StillTailTactics
set_option linter.unusedSimpArgs false
set_option linter.unusedVariables false
namespace Go.Proofs.Ytgchfbfgjanaiaa
open Go.RowKit Sr
theorem reads_arr {w : World} {q : Nat} {cs : Array Value} {t : TypeId} {fz : Nat × Nat} (h : w.heap[q]? = some (.cells cs t fz)) : Reads w q 0 cs.toList := fun j u hu => by
 rw [cell_of_blk h, Nat.zero_add]; simpa using hu
theorem u8s_one (l : List Int) : ∀ u ∈ u8s l, u.oneCell' = true := fun u hu => by
 unfold u8s at hu
 obtain ⟨z, _, rfl⟩ := List.mem_map.1 hu
 rfl
theorem step_ap_two {ops : Array Oper} {o : Oper} {a : Act} {K : Act → World → Prop} {Q : Exit → Act → World → Prop} {X : Prop} {W : World} {B n pl : Nat} {v : Value} {xs : List Value} (s x : Operand) (hgd : o.guard = none)
  (ho : o.op = .call { callee := .builtin .append, args := #[s, x], argTypes := #[22, 22] }) (hs : a.eval s = v) (hown : W.ownsRow B 5 1 v n xs)
  (hx : a.eval x = .slice (some ⟨W.heap.size, 0, none⟩) 2 2) (hn : n + 2 ≤ 1000000000) (hB : B ≤ W.heap.size)
  (h : ∀ g cap w', w'.ownsRow B 5 1 (.slice (some ⟨g, 0, none⟩) (n + 2) cap) (n + 2) (xs ++ u8s (twoN pl)) → (W.alloc (.cells (u8s (twoN pl)).toArray 5)).grownBy w' v.ownBlock → K (a.put o.dst (.slice (some ⟨g, 0, none⟩) (n + 2) cap)) w') :
  if Region.wanted o (yielded ops a.tmps) = true then Oper.wp Try.prog o a (W.alloc (.cells (u8s (twoN pl)).toArray 5)) K Q else X :=
 step_ap_blk (m := 2) (news := u8s (twoN pl)) el_u8 s x hgd ho hs (hown.alloc _) hx (by simp [u8s, twoN]) (by have := reads_arr (blk_alloc W (.cells (u8s (twoN pl)).toArray 5)); simpa using this) (u8s_one _) (by decide) hn (Nat.le_trans hB (by simp)) fun g cap w' q1 q2 _ => h g cap w' q1 q2
theorem below_dr9 {n : Nat} {w W : World} (h : Below n w W) : Below n w W.drew := ⟨h.os, h.tape, h.output, h.size, h.block⟩
structure RBY (w1 W : World) (v : Value) (m : Nat) (l : List Int) : Prop where
 len : m = l.length
 own : W.ownsRow w1.heap.size 5 1 v m (u8s l)
 below : Below w1.heap.size w1 W
theorem RBY.dr {w1 W : World} {v : Value} {m : Nat} {l : List Int} (h : RBY w1 W v m l) (q : Nat) : RBY w1 (W.drewN q) v m l := ⟨h.len, h.own, ⟨h.below.os, h.below.tape, h.below.output, h.below.size, h.below.block⟩⟩
theorem RBY.push {w1 W W1 W2 : World} {v v' : Value} {m k : Nat} {l l2 : List Int} (h : RBY w1 W v m l) (hb : Below W.heap.size W W1) (hg : W1.grownBy W2 v.ownBlock) (ho : W2.ownsRow w1.heap.size 5 1 v' (m + k) (u8s l ++ u8s l2)) (hk : k = l2.length) : RBY w1 W2 v' (m + k) (l ++ l2) where
 len := by rw [List.length_append, h.len, hk]
 own := by rw [u8s_append]; exact ho
 below := by
  have h1 := r_chain h.below hb
  exact h1.grown hg h1.size fun q hq => own_ge h.own q hq
set_option maxRecDepth 100000 in
set_option maxHeartbeats 4000000 in
theorem rBytes_any {U : List Int} {w : World} {b : RB} {vs : List Int} {i : Nat} {x : Int} (h : RInv w b vs U) (hi : vs[i]? = some x) (ha : Allowed x) :
  Calls Try.prog 51 #[.pointer (some ⟨b.p, 0, none⟩), .int .i64 (i : Int)] w fun e w' => ∃ a c, e = .returned (.slice a (bytesN x).length c) ∧
   w'.ownsRow w.heap.size 5 1 (.slice a (bytesN x).length c) (bytesN x).length (u8s (bytesN x)) ∧ Below w.heap.size w w' := by
 have hp := rParts_any h hi
 rw [partsV_places h.cl hi] at hp
 obtain ⟨n, hn⟩ : ∃ n, n = weight x := ⟨_, rfl⟩
 have hn2 : n ≤ 2000 := by rw [hn]; exact ha.2.2.1
 rw [← hn] at hp
 have HP := Sealed.mk hp
 have H := Sealed.mk (And.intro h (And.intro hi (And.intro ha hn)))
 clear h hi ha hp hn
 go_enter Try.func51, Try.ntmps51
 go_upto_block 0 with (first
  | (go_at_call 74; go_must ((with_reducible refine HP.out.mono ?_); rintro e w1 ⟨a, c, rfl, ho, hb⟩; have HO := Sealed.mk (And.intro ho hb); clear ho hb))
  | (go_at_call 87; go_must ((with_reducible refine (rtwo_any (n := n) (by omega)).mono ?_); rintro e w2 ⟨rfl, hw2⟩; have HT := Sealed.mk hw2; clear hw2)))
 have hby0 : RBY w1 w2 (.slice (some ⟨w1.heap.size, 0, none⟩) 2 2) 2 (preN x 0) := by
  rw [preN_zero, ← H.out.2.2.2, HT.out]
  refine ⟨rfl, ?_, (Below.refl _ _).alloc (Nat.le_refl _) _⟩
  have := World.ownsRow_lit (base := w1.heap.size) (e := 5) (size := 1) w1 (u8s (twoN n)).toArray 2 (Nat.le_refl _) (by decide) (by simp [u8s, twoN])
  simpa using this
 have HB0 := Sealed.mk hby0; clear hby0
 clear HP HT
 go_wp2_with fail
 go_loopg [6, 7] n (fun jj ov kv W => ∃ (k m : Nat) (oa : Option Addr) (oc : Nat), jj = n - k ∧ k ≤ n ∧ kv = .int .i64 (k : Int) ∧ ov = .slice oa m oc ∧ Sealed (RBY w1 W (.slice oa m oc) m (preN x k)))
 case atStart => exact ⟨0, 2, _, 2, rfl, Nat.zero_le _, rfl, rfl, HB0⟩
 case round =>
  obtain ⟨k, m, oa, oc, rfl, hk, rfl, rfl, HK⟩ := hrel
  by_cases hkn : k < n
  ·obtain ⟨y, hy⟩ : ∃ y, (partsV x)[k]? = some y := ⟨_, List.getElem?_eq_getElem (by rw [partsV_length, ← H.out.2.2.2]; exact hkn)⟩
   have hym := List.mem_of_getElem? hy
   have hyv : vs[vs.idxOf y]? = some y := idxOf_get (partsV_mem H.out.1.cl H.out.2.1 hym)
   have hyf := partsV_form H.out.2.2.1 hym
   obtain ⟨p, hp⟩ : ∃ p, p = vs.idxOf y := ⟨_, rfl⟩
   have hbw := r_chain HO.out.2 HK.out.below
   have hrow := own_ext HO.out.1 (Ext.of_below (M := noB) HK.out.below) (fun _ _ h => h)
   obtain ⟨gq, cq, e1⟩ := own_form hrow (by omega)
   obtain ⟨rfl, _, rfl⟩ := Value.slice.inj e1
   clear e1
   have c1 := own_cell hrow (b := gq) rfl (irow_get (k := k) (n := p) (by rw [List.getElem?_map, hy, hp]; rfl))
   rw [← hp] at hyv
   obtain ⟨cap, a2, c2, f0w, hcap, -, f1w, ht, -⟩ := H.out.1.form hyv
   have f0 := (cell_same (hbw.block _ (lt_of_cell f0w)) _).trans f0w
   have f1 := (cell_same (hbw.block _ (lt_of_cell f1w)) _).trans f1w
   clear f0w f1w
   obtain ⟨l, hl⟩ : ∃ l, l = enc vs y := ⟨_, rfl⟩
   rw [← hl] at f1 ht
   obtain ⟨f, hf⟩ : ∃ f, f = l.length := ⟨_, rfl⟩
   have hf3 : f ≤ 300 := by rw [hf, hl]; simpa [enc] using hyf
   rw [← hf] at f1
   have hpl : p < vs.length := (List.getElem?_eq_some_iff.1 hyv).1
   have hpl' : (p : Int) < (vs.length : Int) := by omega
   have hkn' : (k : Int) < (n : Int) := by omega
   have hkw : wrap64 ((k : Int) + 1) = (k : Int) + 1 := by unfold wrap64; omega
   have hm9 := preN_length H.out.2.2.1 k
   rw [← HK.out.len] at hm9
   have hm8 : m ≤ 2000000 := by omega
   have HY := Sealed.mk (And.intro hy (And.intro hym (And.intro hl (And.intro hf ht)))); clear hy hym hl hf ht hyv hp hm9 hbw hrow hyf
   go_wp2_with fail
   go_quiet (fail)
   obtain ⟨W2, hW2⟩ : ∃ W2, W2 = wr.drewN nq := ⟨_, rfl⟩
   have K2 : Sealed (RBY w1 W2 (.slice oa m oc) m (preN x k)) := ⟨by rw [hW2]; exact HK.out.dr nq⟩
   rw [← hW2]
   have HW2 := Sealed.mk (show Below wr.heap.size wr W2 by rw [hW2]; exact ⟨rfl, rfl, rfl, Nat.le_refl _, fun _ _ => rfl⟩)
   clear hW2 f0 f1 c1
   go_upto_region 8 with (first
    | (go_at_call 87; go_must ((with_reducible refine (rtwo_any (n := f) (by omega)).mono ?_); rintro e w3 ⟨rfl, rfl⟩))
    | (at_builtin; go_must (refine ap_litp (m := 2) el_u8 (.tmp 33) (.tmp 36) rfl rfl rfl K2.out.own rfl rfl (by simp [u8s, twoN]) (by decide) (by simp [u8s, twoN, Value.oneCell']) (by omega) K2.out.below.size ?_); go_must (intro g4 c4 w4 ho4 hg4 _; have K4 : Sealed (RBY w1 w4 (.slice (some ⟨g4, 0, none⟩) (m + 2) c4) (m + 2) (preN x k ++ twoN f)) := ⟨K2.out.push (Below.refl _ _) hg4 (by simpa using ho4) rfl⟩; clear ho4 hg4)))
   go_wp2_with fail
   go_loopg [6, 9] f (fun jj ov kv W => ∃ (q mm : Nat) (ob : Option Addr) (od : Nat), jj = f - q ∧ q ≤ f ∧ kv = .int .i64 (q : Int) ∧ ov = .slice ob mm od ∧ Sealed (RBY w1 W (.slice ob mm od) mm (preN x k ++ twoN f ++ termsN ((enc (pvs x) y).take q))))
   case atStart => exact ⟨0, m + 2, _, c4, rfl, Nat.zero_le _, rfl, rfl, by simpa [termsN] using K4⟩
   case round =>
    obtain ⟨q, mm, ob, od, rfl, hq, rfl, rfl, HQ⟩ := hrel
    have hbW := r_chain HO.out.2 HQ.out.below
    have hll : l.length = (form y).length := by rw [HY.out.2.2.1]; simp [enc]
    have hmm : mm ≤ 2001000 := by
     have h1 := HQ.out.len
     rw [List.length_append, List.length_append, termsN_length, ← HK.out.len] at h1
     have h2 : ((enc (pvs x) y).take q).length ≤ q := by rw [List.length_take]; omega
     have h3 : (twoN f).length = 2 := rfl
     clear hkw
     omega
    by_cases hqf : q < f
    ·obtain ⟨⟨mi, e⟩, hte⟩ : ∃ t, (form y)[q]? = some t := ⟨_, List.getElem?_eq_getElem (by have := HY.out.2.2.2.1; clear hkw; omega)⟩
     have hey : e ∈ exps y := mem_exps.2 ⟨_, List.mem_of_getElem? hte, rfl⟩
     obtain ⟨hpm, hpi, hpw⟩ := place_exp H.out.1.cl H.out.2.1 HY.out.2.1 hey
     obtain ⟨pe, hpe⟩ : ∃ pe, pe = vs.idxOf (e : Int) := ⟨_, rfl⟩
     obtain ⟨pl, hpl3⟩ : ∃ pl, pl = (pvs x).idxOf (e : Int) := ⟨_, rfl⟩
     have hle : l[q]? = some (mi, pe) := by rw [HY.out.2.2.1, hpe]; simp [enc, hte]
     have hlp : (enc (pvs x) y)[q]? = some (mi, pl) := by rw [hpl3]; simp [enc, hte]
     rw [← hpe] at hpm hpi
     rw [← hpl3] at hpi hpw
     have hrt := HY.out.2.2.2.2.below hbW
     obtain ⟨-, -, -, hcl⟩ := hrt.cells
     obtain ⟨bb, oo, ha2, d0, d1⟩ := hcl q _ hle
     subst ha2
     simp only at d0 d1
     have hrl : bb < w1.heap.size := Nat.lt_of_lt_of_le (HY.out.2.2.2.2.lt bb rfl) HO.out.2.size
     have hld : ∀ W, Below w1.heap.size w1 W → W.cell? ⟨bb, oo + q * 2 + 1, none⟩ = some (.int .i64 (pe : Int)) := fun W hb => by
      have := HY.out.2.2.2.2.below (r_chain HO.out.2 hb)
      obtain ⟨-, -, -, hcl2⟩ := this.cells
      obtain ⟨b', o', e9, -, d9⟩ := hcl2 q _ hle
      obtain ⟨rfl, rfl⟩ : bb = b' ∧ oo = o' := by simpa using e9
      exact d9
     have hpc : ∀ W, Below w1.heap.size w1 W → Calls Try.prog 88 #[.slice (some ⟨gq, 0, none⟩) n c, .int .i64 (pe : Int)] W fun e w' => e = .returned (.int .i64 (pl : Int)) ∧ w' = W := fun W hb => by
      have := rplace_any (own_ext HO.out.1 (Ext.of_below (M := noB) hb) (fun _ _ h => h)) (by clear hkw; omega) hpm
      rw [hpi] at this
      exact this
     have hpl6 : pl < 65536 := by have := H.out.2.2.2; clear hkw; omega
     have hqf' : (q : Int) < (f : Int) := by clear hkw; omega
     obtain ⟨si, hsi⟩ : ∃ si : Int, si = if mi = true then 1 else 0 := ⟨_, rfl⟩
     have HE := Sealed.mk (And.intro hld (And.intro hpc (And.intro hlp (And.intro hpl6 hsi))))
     clear hkw
     clear hld hpc hle hlp hpe hpl3 hpm hpi hpw hte hey hrt hcl d1 hll hsi
     go_upto_if 48 with fail
     go_cut [10] from 48 to 48 (fun tv wx => tv = .int .u8 si ∧ wx = wr)
     case first =>
      cases mi
      ·have HSI := Sealed.mk (show si = 0 by rw [HE.out.2.2.2.2]; rfl)
       go_wp2_with fail
       go_meet
       case rel => exact ⟨by rw [HSI.out], rfl⟩
      ·have HSI := Sealed.mk (show si = 1 by rw [HE.out.2.2.2.2]; rfl)
       go_wp2_with fail
       go_meet
       case rel => exact ⟨by rw [HSI.out], rfl⟩
     case rest =>
      obtain ⟨rfl, rfl⟩ := hcut
      obtain ⟨W5, hW5⟩ : ∃ W5, W5 = wc := ⟨_, rfl⟩
      rw [← hW5] at HQ hbW d0 ⊢
      clear hW5
      go_upto_region 14 with fail
      have y1 := HE.out.1 W5.drew (below_dr9 HQ.out.below)
      have y2 : ∀ z : Int, (W5.alloc (.cells #[.int .u8 z] 5)).drew.cell? ⟨bb, oo + q * 2 + 1, none⟩ = some (.int .i64 (pe : Int)) := fun z => HE.out.1 _ (below_dr9 (HQ.out.below.alloc HQ.out.below.size _))
      have hB9 := HQ.out.below.size
      go_region_law
       (first
        | (refine step_ap_drew el_u8 (.tmp 49) (.tmp 51) rfl rfl rfl HQ.out.own rfl rfl rfl rfl (by omega) hB9 ?_
           go_must (intro g7 c7 w7 ho7 hg7 hn7; have hs7 : W5.heap.size ≤ w7.heap.size := Nat.le_trans (by simp) hg7.size; have K7 : Sealed (RBY w1 w7 (.slice (some ⟨g7, 0, none⟩) (mm + 1) c7) (mm + 1) (preN x k ++ twoN f ++ termsN ((enc (pvs x) y).take q) ++ [si])) := ⟨HQ.out.push (k := 1) (l2 := [si]) (r_al (o := .cells #[.int .u8 si] 5) (Below.refl _ _)) hg7 (by simpa [u8s] using ho7) rfl⟩; have y7 := HE.out.1 w7 K7.out.below; have PC := Sealed.mk (HE.out.2.1 w7 K7.out.below); clear ho7 hg7 hn7 hs7))
        | (go_simp; go_at_call 88; go_must (refine PC.out.mono ?_; rintro e8 w8 ⟨rfl, rfl⟩; try go_simp))
        | (go_simp; go_at_call 87; go_must (refine (rtwo_any (n := pl) HE.out.2.2.2.1).mono ?_; rintro e9 w9 ⟨rfl, rfl⟩; try go_simp))
        | (refine step_ap_two (.tmp 52) (.tmp 60) rfl rfl rfl K7.out.own rfl (by omega) K7.out.below.size ?_
           go_must (intro g9 c9 w9 ho9 hg9; have K9 : Sealed (RBY w1 w9 (.slice (some ⟨g9, 0, none⟩) (mm + 1 + 2) c9) (mm + 1 + 2) (preN x k ++ twoN f ++ termsN ((enc (pvs x) y).take q) ++ [si] ++ twoN pl)) := ⟨K7.out.push (k := 2) (l2 := twoN pl) (r_al (Below.refl _ _)) hg9 ho9 rfl⟩; clear ho9 hg9)))
      all_goals
       go_wp2_with fail
       go_roundg (f - (q + 1))
       case measure => omega
       case rel =>
        refine ⟨q + 1, mm + 1 + 2, _, c9, rfl, by omega, by push_cast; rfl, rfl, ?_⟩
        have e9 : preN x k ++ twoN f ++ termsN ((enc (pvs x) y).take (q + 1)) = preN x k ++ twoN f ++ termsN ((enc (pvs x) y).take q) ++ [si] ++ twoN pl := by
         rw [termsN_take HE.out.2.2.1, HE.out.2.2.2.2]
         simp [List.append_assoc]
        rw [e9]
        exact K9
    ·obtain rfl : q = f := by clear hkw; omega
     have e9 : preN x k ++ twoN q ++ termsN ((enc (pvs x) y).take q) = preN x (k + 1) := by
      have hlq : (enc (pvs x) y).length = q := by rw [HY.out.2.2.2.1, hll]; simp [enc]
      rw [preN_succ HY.out.1]
      unfold formN
      rw [hlq, List.take_of_length_le (by omega), List.append_assoc]
     rw [e9] at HQ
     clear e9 hll
     go_wp2_with fail
     go_roundg (n - (k + 1))
     case measure => clear hkw; omega
     case rel => exact ⟨k + 1, mm, ob, od, rfl, by clear hkw; omega, by push_cast; rfl, rfl, HQ⟩
  ·obtain rfl : k = n := by omega
   have e9 := preN_all (x := x) (k := k) (by rw [← H.out.2.2.2]; exact Nat.le_refl _)
   rw [e9] at HK
   clear e9
   go_wp2_with fail
   go_ret
   have h1 := HK.out
   refine ⟨oa, oc, by rw [h1.len]; rfl, ?_, r_chain HO.out.2 h1.below⟩
   have h2 := h1.own
   rw [h1.len] at h2
   exact own_lower h2 HO.out.2.size
end Go.Proofs.Ytgchfbfgjanaiaa

namespace Go.Proofs.Ytgchfbfgjanaiaa
open Go.RowKit Sr
abbrev NumL := List (Option Addr × Int)
abbrev CellL := List (Nat × Option Addr × Int)
structure St (w0 W : World) (nums : NumL) (cells : CellL) : Prop where
 below : Below w0.heap.size w0 W
 nums_ : ∀ (i : Nat) (p : Option Addr) (x : Int), nums[i]? = some (p, x) → NumIs W (.agg #[.pointer p]) x
 cells_ : ∀ (i : Nat) (k : Nat) (p : Option Addr) (x : Int), cells[i]? = some (k, p, x) → NC W k p x ∧ w0.heap.size ≤ k
 apart : (cells.map (·.1)).Nodup
variable {w0 W W' : World} {nums : NumL} {cells : CellL}
theorem St.start (w0 : World) : St w0 w0 [] [] := ⟨Below.refl _ _, fun i p x h => by simp at h, fun i k p x h => by simp at h, by simp⟩
theorem St.num (h : St w0 W nums cells) (i : Nat) {p : Option Addr} {x : Int} (hi : nums[i]? = some (p, x)) : NumIs W (.agg #[.pointer p]) x := h.nums_ i p x hi
theorem St.cnum (h : St w0 W nums cells) (i : Nat) {k : Nat} {p : Option Addr} {x : Int} (hi : cells[i]? = some (k, p, x)) : NumIs W (.agg #[.pointer p]) x := (h.cells_ i k p x hi).1.2
theorem St.cell (h : St w0 W nums cells) (i : Nat) {k : Nat} {p : Option Addr} {x : Int} (hi : cells[i]? = some (k, p, x)) : W.cell? ⟨k, 0, none⟩ = some (.pointer p) := (h.cells_ i k p x hi).1.cell
theorem St.blk (h : St w0 W nums cells) (i : Nat) {k : Nat} {p : Option Addr} {x : Int} (hi : cells[i]? = some (k, p, x)) : W.heap[k]? = some (.cells #[.pointer p] 30 (0, 0)) := (h.cells_ i k p x hi).1.1
theorem St.frozen (h : St w0 W nums cells) (i : Nat) {k : Nat} {p : Option Addr} {x : Int} (hi : cells[i]? = some (k, p, x)) : W.frozen? ⟨k, 0, none⟩ = false := frozen_of_blk (h.blk i hi) 0
theorem St.adv (h : St w0 W nums cells) (hb : Below W.heap.size W W') : St w0 W' nums cells :=
 ⟨below_chain h.below hb, fun i p x hi => (h.nums_ i p x hi).below hb, fun i k p x hi => ⟨(h.cells_ i k p x hi).1.below hb, (h.cells_ i k p x hi).2⟩, h.apart⟩
theorem St.na (h : St w0 W nums cells) {o : Obj} : St w0 (W.alloc o) nums cells := h.adv (below_new _ _)
theorem St.dr (h : St w0 W nums cells) : St w0 W.drew nums cells := h.adv (below_drew _)
theorem St.push (h : St w0 W nums cells) {p : Option Addr} {x : Int} (hn : NumIs W (.agg #[.pointer p]) x) : St w0 W ((p, x) :: nums) cells :=
 ⟨h.below, fun i q y hi => by
  cases i with
  | zero => simp at hi; obtain ⟨rfl, rfl⟩ := hi; exact hn
  | succ i => exact h.nums_ i q y (by simpa using hi), h.cells_, h.apart⟩
theorem St.res (h : St w0 W nums cells) {p : Option Addr} {x : Int} (hb : Below W.heap.size W W') (hn : NumIs W' (.agg #[.pointer p]) x) : St w0 W' ((p, x) :: nums) cells := (h.adv hb).push hn
theorem St.lt (h : St w0 W nums cells) : ∀ k ∈ cells.map (·.1), k < W.heap.size := fun k hk => by
 obtain ⟨⟨k', p, x⟩, ht, rfl⟩ := List.mem_map.1 hk
 obtain ⟨i, hi⟩ := List.getElem?_of_mem ht
 exact lt_of_blk (h.cells_ i k' p x hi).1.1
theorem St.cel (h : St w0 W nums cells) {k : Nat} {p : Option Addr} {x : Int} (hc : NC W k p x) (hk : w0.heap.size ≤ k) (ha : ∀ j ∈ cells.map (·.1), j ≠ k) : St w0 W nums ((k, p, x) :: cells) :=
 ⟨h.below, h.nums_, fun i k' q y hi => by
  cases i with
  | zero => simp at hi; obtain ⟨rfl, rfl, rfl⟩ := hi; exact ⟨hc, hk⟩
  | succ i => exact h.cells_ i k' q y (by simpa using hi), by
  rw [List.map_cons, List.nodup_cons]
  exact ⟨fun hm => ha _ hm rfl, h.apart⟩⟩
theorem St.new (h : St w0 W nums cells) {p : Option Addr} {x : Int} (hn : NumIs W (.agg #[.pointer p]) x) : St w0 (W.alloc (.cells #[.pointer p] 30)) nums ((W.heap.size, p, x) :: cells) :=
 h.na.cel (NC.make hn) h.below.size fun j hj e => by have := h.lt j hj; omega
theorem St.drop (h : St w0 W nums cells) (n : Nat) : St w0 W nums (cells.drop n) :=
 ⟨h.below, h.nums_, fun i k p x hi => h.cells_ (n + i) k p x (by rwa [List.getElem?_drop] at hi), by rw [List.map_drop]; exact h.apart.sublist (List.drop_sublist _ _)⟩
theorem St.sub {cells' : CellL} (h : St w0 W nums cells) (hs : ∀ t ∈ cells', t ∈ cells) (hn : (cells'.map (·.1)).Nodup) : St w0 W nums cells' :=
 ⟨h.below, h.nums_, fun i k p x hi => by
  obtain ⟨j, hj⟩ := List.getElem?_of_mem (hs _ (List.mem_of_getElem? hi))
  exact h.cells_ j k p x hj, hn⟩
theorem St.put (h : St w0 W nums cells) (i : Nat) {k : Nat} {p q : Option Addr} {x z : Int} (hi : cells[i]? = some (k, p, x)) (hn : NumIs W (.agg #[.pointer q]) z) : St w0 (W.setCell ⟨k, 0, none⟩ (.pointer q)) nums (cells.set i (k, q, z)) := by
 have hz := h.blk i hi
 have hx : Ext (fun j => j = k) W (W.setCell ⟨k, 0, none⟩ (.pointer q)) := (Ext.refl (fun j => j = k) W).setCell (p := ⟨k, 0, none⟩) (.inl rfl) _
 have hlen : i < cells.length := (List.getElem?_eq_some_iff.1 hi).1
 refine ⟨h.below.setCell (h.cells_ i k p x hi).2 _, fun i r x hi => (h.nums_ i r x hi).other hz hx, fun j k' r y hj => ?_, ?_⟩
 ·by_cases e : i = j
  ·subst e
   rw [List.getElem?_set_self hlen] at hj
   obtain ⟨rfl, rfl, rfl⟩ := by simpa using hj
   exact ⟨⟨by rw [blk_setCell hz]; rfl, hn.other hz hx⟩, (h.cells_ i k p x hi).2⟩
  ·rw [List.getElem?_set_ne e] at hj
   obtain ⟨⟨a1, a2⟩, a3⟩ := h.cells_ j k' r y hj
   refine ⟨⟨hx.get a1 fun ek => ?_, a2.other hz hx⟩, a3⟩
   have ek' : k' = k := ek
   have hn' := List.pairwise_iff_getElem.1 h.apart
   have hj' : j < cells.length := (List.getElem?_eq_some_iff.1 hj).1
   have e1 : (cells.map (·.1))[i]'(by simpa using hlen) = k := by
    rw [List.getElem_map, (List.getElem?_eq_some_iff.1 hi).2]
   have e2 : (cells.map (·.1))[j]'(by simpa using hj') = k := by
    rw [List.getElem_map, (List.getElem?_eq_some_iff.1 hj).2]; exact ek'
   rcases Nat.lt_or_gt_of_ne e with hlt | hlt
   ·exact hn' i j (by simpa using hlen) (by simpa using hj') hlt (e1.trans e2.symm)
   ·exact hn' j i (by simpa using hj') (by simpa using hlen) hlt (e2.trans e1.symm)
 ·have : (cells.set i (k, q, z)).map (·.1) = cells.map (·.1) := by
   rw [List.map_set]
   apply List.ext_getElem?
   intro j
   by_cases e : i = j
   ·subst e
    rw [List.getElem?_set_self (by simpa using hlen), List.getElem?_map, hi]; rfl
   ·rw [List.getElem?_set_ne e]
  rw [this]; exact h.apart
end Go.Proofs.Ytgchfbfgjanaiaa

namespace Go.Proofs.Ytgchfbfgjanaiaa
open Go.RowKit Sr
theorem conv_bytes {w : World} {v : Value} {l : List Int} (h : BytesAt w v l) : ∃ a c, v = .slice a l.length c ∧ (convert 22 9 (.slice a l.length c)).run Try.prog w = .ok (.string (strOfNums l)) w := by
 obtain ⟨a, c, rfl, h2, h3, h4⟩ := h.at_
 refine ⟨a, c, rfl, ?_⟩
 by_cases hn : a = none
 ·subst hn
  have hl : l = [] := by
   cases l with
   | nil => rfl
   | cons x l => obtain ⟨b, o, e, _⟩ := h4 (by simp); cases e
  subst hl
  exact run_convert_bytes_nil w 22 5 Try.underlying22 Try.underlying5 0 c 9 Try.underlying9
 ·obtain ⟨b, o, rfl, _⟩ := h3 hn
  refine run_convert_bytes_arg w 22 5 Try.underlying22 Try.underlying5 b o _ c l rfl (fun i hi => ?_) 9 Try.underlying9
  obtain ⟨b', o', e, _, _, q⟩ := h4 (fun hh => by rw [hh] at hi; simp at hi)
  simp only [Option.some.injEq, Addr.mk.injEq] at e
  obtain ⟨rfl, rfl, _⟩ := e
  exact q i (l.getD i 0) (by rw [List.getD_eq_getElem?_getD, List.getElem?_eq_getElem hi]; rfl)
set_option maxRecDepth 100000 in
set_option maxHeartbeats 4000000 in
theorem Same_any {w : World} {va vb : Value} {la lb : List Int} (ha : BytesAt w va la) (hb : BytesAt w vb lb) : Calls Try.prog 19 #[va, vb] w fun e w' => e = .returned (.bool (decide (la = lb))) ∧ w' = w := by
 obtain ⟨aa, ca, rfl, c1⟩ := conv_bytes ha
 obtain ⟨ab, cb, rfl, c2⟩ := conv_bytes hb
 have hs : (strOfNums la = strOfNums lb) ↔ la = lb := ⟨fun h => strOfNums_inj ha.range hb.range h, fun h => by rw [h]⟩
 have HS := Sealed.mk hs; clear hs
 obtain ⟨na, hna⟩ : ∃ na, na = la.length := ⟨_, rfl⟩
 obtain ⟨nb, hnb⟩ : ∃ nb, nb = lb.length := ⟨_, rfl⟩
 rw [← hna] at c1 ⊢
 rw [← hnb] at c2 ⊢
 clear hna hnb ha hb
 go_enter Try.func19, Try.ntmps19
 go_wp2_with fail
 go_ret
 refine ⟨show Ending.returned (.bool ((strOfNums la).toList == (strOfNums lb).toList)) = _ from ?_, rfl⟩
 rw [btoList, btoList]
 congr 2
 by_cases h : la = lb
 ·subst h
  simp
 ·rw [decide_eq_false h, beq_eq_false_iff_ne]
  intro e
  exact h (HS.out.1 (ByteArray.ext (Array.ext' e)))
end Go.Proofs.Ytgchfbfgjanaiaa

namespace Go.Proofs.Ytgchfbfgjanaiaa
open Go.RowKit Sr
theorem bytes_bounds {x : Int} (h : Allowed x) : (bytesN x).length ≤ 1000000000 := Nat.le_trans (bytesN_length h) (by decide)
theorem bytesN_iff {x y : Int} (hx : Allowed x) (hy : Allowed y) : decide (bytesN x = bytesN y) = decide (x = y) := by
 by_cases h : x = y
 ·subst h; simp
 ·rw [decide_eq_false h, decide_eq_false fun e => h (bytesN_inj hx hy e)]
theorem Bytes_at {w : World} {u : Value} {x : Int} (h : NumIs w u x) : Calls Try.prog 23 #[u] w fun e w' => ∃ a c, e = .returned (.slice a (bytesN x).length c) ∧ BytesAt w' (.slice a (bytesN x).length c) (bytesN x) ∧ Below w.heap.size w w' :=
 (Bytes_any h).mono fun e w' q => by
  obtain ⟨a, c, rfl, ho, hb⟩ := q
  exact ⟨a, c, rfl, BytesAt.of_own ho (bytesN_range h.1) (bytes_bounds h.1), hb⟩
set_option maxRecDepth 100000 in
set_option maxHeartbeats 1000000 in
theorem lawSame_any {w : World} {u v : Value} {x y : Int} (hx : NumIs w u x) (hy : NumIs w v y) : Calls Try.prog 20 #[u, v] w fun e w' => e = .returned (.bool (decide (x = y))) ∧ Below w.heap.size w w' := by
 obtain ⟨p, rfl⟩ := hx.ptr
 obtain ⟨q, rfl⟩ := hy.ptr
 have hxy := bytesN_iff hx.1 hy.1
 have S0 := ((St.start w).new hx).new (hy.below (below_new _ _))
 obtain ⟨W2, hW2⟩ : ∃ W2, W2 = (w.alloc (.cells #[.pointer p] 30)).alloc (.cells #[.pointer q] 30) := ⟨_, rfl⟩
 simp only [World.size_alloc] at S0
 rw [← hW2] at S0
 have S := Sealed.mk S0.dr; clear S0 hx hy
 have HXY := Sealed.mk hxy; clear hxy
 go_enter Try.func20, Try.ntmps20
 go_upto_region 1 with fail
 rw [← hW2]
 clear hW2
 go_region_held3 (fun W => W.cell? ⟨w.heap.size, 0, none⟩ = some (.pointer p) ∧ W.cell? ⟨w.heap.size + 1, 0, none⟩ = some (.pointer q))
  (exact ⟨S.out.cell 1 rfl, S.out.cell 0 rfl⟩)
  (first
   | (go_at_call 23; go_must (first
     | ((with_reducible refine (Bytes_at (S.out.cnum 1 rfl)).mono ?_); rintro e w3 ⟨a3, c3, rfl, hb3, hb⟩; replace S := Sealed.mk (S.out.adv hb); have S3 := Sealed.mk hb3; clear hb3 hb)
     | ((with_reducible refine (Bytes_at (S.out.cnum 0 rfl)).mono ?_); rintro e w4 ⟨a4, c4, rfl, hb4, hb⟩; replace S := Sealed.mk (S.out.adv hb); replace S3 := Sealed.mk (S3.out.below hb); have S4 := Sealed.mk hb4; clear hb4 hb)))
   | (go_at_call 19; go_must (refine (Same_any S3.out S4.out).mono ?_; rintro e w5 ⟨rfl, hb⟩; subst hb)))
 go_wp2_with fail
 go_ret
 exact ⟨show Ending.returned (.bool (decide (bytesN x = bytesN y))) = _ by rw [HXY.out], S.out.below⟩
end Go.Proofs.Ytgchfbfgjanaiaa

namespace Go.Proofs.Ytgchfbfgjanaiaa
open Go.RowKit Sr
theorem terms_get {w : World} {B g n c : Nat} {l : List (Bool × Int)} {ts : List (Bool × Option Addr)} (h : TermsOwn w B (.slice (some ⟨g, 0, none⟩) n c) l ts) {i : Nat} {s : Bool × Int} (hs : l[i]? = some s) : ∃ q, w.cell? ⟨g, i * 2, none⟩ = some (.bool s.1) ∧ w.cell? ⟨g, i * 2 + 1, none⟩ = some (.pointer q) ∧ NumIs w (.agg #[.pointer q]) s.2 := by
 have hi : i < ts.length := by rw [h.len]; exact (List.getElem?_eq_some_iff.1 hs).1
 have ht : ts[i]? = some ts[i] := List.getElem?_eq_getElem hi
 obtain ⟨h1, h2⟩ := h.num i _ s ht hs
 obtain ⟨d0, d1⟩ := trow_at ts i _ ht
 exact ⟨ts[i].2, by rw [← h1]; exact own_cell h.own rfl d0, own_cell h.own rfl d1, h2⟩
theorem own_typ5 {w : World} {B t s n q : Nat} {v : Value} {xs : List Value} (h : w.ownsRow B t s v n xs) (hq : v.ownBlock = some q) : ∃ cs, ∃ fz : Unit, w.heap[q]? = some (.cells cs t (0, 0)) := by
 rcases h.2 with ⟨rfl, _⟩ | ⟨g, cap, cur, rfl, _, hg, _⟩
 ·simp [Value.ownBlock] at hq
 ·have : g = q := Option.some.inj hq
  subst this
  exact ⟨_, (), hg⟩
theorem i64_in {z : Int} (h1 : -1000000000000 ≤ z) (h2 : z ≤ 1000000000000) : IntKind.i64.wrap z = z := by rw [IntKind.wrap_i64]; omega
theorem w64_in {z : Int} (h1 : -1000000000000 ≤ z) (h2 : z ≤ 1000000000000) : wrap64 z = z := by unfold wrap64; omega
end Go.Proofs.Ytgchfbfgjanaiaa

namespace Go.Proofs.Ytgchfbfgjanaiaa
open Go.RowKit Sr
theorem RInv.notM {w : World} {b : RB} {vs U : List Int} (h : RInv w b vs U) {q t : Nat} (ht : TyBlk w q t) (h1 : t ≠ 88) (h2 : t ≠ 42) : ¬ b.M q := by
 obtain ⟨cap, cur, f1, f2, -⟩ := h.forms
 obtain ⟨cs, fz, e⟩ := ht
 rintro (rfl | rfl)
 ·rw [f1] at e
  simp only [Option.some.injEq, Obj.cells.injEq] at e
  exact h1 e.2.1.symm
 ·rw [f2] at e
  simp only [Option.some.injEq, Obj.cells.injEq] at e
  exact h2 e.2.1.symm
theorem RInv.apartM {w : World} {b : RB} {vs U : List Int} (h : RInv w b vs U) : Apart w b.M := by
 intro k hk t ht
 refine ⟨fun e => ?_, fun e => ?_, fun e => ?_⟩
 ·subst e; exact h.notM ht (by decide) (by decide) hk
 ·subst e; exact h.notM ht (by decide) (by decide) hk
 ·subst e; exact h.notM ht (by decide) (by decide) hk
structure TS (U : List Int) (w W : World) (b b1 : RB) (vs vs1 : List Int) (k : Nat) (p : Option Addr) (x : Int) : Prop where
 st : RStep U w W b b1 vs vs1
 blk : W.heap[k]? = some (.cells #[.pointer p] 30 (0, 0))
 num : NumIs W (.agg #[.pointer p]) x
variable {U : List Int} {w W W' : World} {b b1 b2 : RB} {vs vs1 vs2 : List Int} {k : Nat} {p : Option Addr} {x : Int}
theorem TS.adv (h : TS U w W b b1 vs vs1 k p x) (e : Below W.heap.size W W') : TS U w W' b b1 vs vs1 k p x :=
 ⟨h.st.trans (RStep.kept h.st.inv e), (e.block _ (lt_of_blk h.blk)).trans h.blk, h.num.below e⟩
theorem TS.step (h : TS U w W b b1 vs vs1 k p x) (s : RStep U W W' b1 b2 vs1 vs2) : TS U w W' b b2 vs vs2 k p x :=
 ⟨h.st.trans s, s.ext.get h.blk (h.st.inv.notM ⟨_, _, h.blk⟩ (by decide) (by decide)), h.num.apart h.st.inv.apartM s.ext⟩
theorem TS.cell (h : TS U w W b b1 vs vs1 k p x) : W.cell? ⟨k, 0, none⟩ = some (.pointer p) := (cell_of_blk h.blk 0).trans rfl
theorem TermsOwn.step {B : Nat} {v : Value} {l : List (Bool × Int)} {ts : List (Bool × Option Addr)} (h : TermsOwn W B v l ts) (hi : RInv W b1 vs1 U) (s : RStep U W W' b1 b2 vs1 vs2) : TermsOwn W' B v l ts :=
 h.keep s.ext hi.apartM fun q hq => by
  obtain ⟨cs, fz, e⟩ := own_typ5 h.own hq
  exact hi.notM ⟨_, _, e⟩ (by decide) (by decide)
theorem rBytes_at {i : Nat} (h : RInv w b vs U) (hi : vs[i]? = some x) (ha : Allowed x) : Calls Try.prog 51 #[.pointer (some ⟨b.p, 0, none⟩), .int .i64 (i : Int)] w fun e w' => ∃ a c, e = .returned (.slice a (bytesN x).length c) ∧ BytesAt w' (.slice a (bytesN x).length c) (bytesN x) ∧ Below w.heap.size w w' :=
 (rBytes_any h hi ha).mono fun e w' q => by
  obtain ⟨a, c, rfl, ho, hb⟩ := q
  exact ⟨a, c, rfl, BytesAt.of_own ho (bytesN_range ha) (bytes_bounds ha), hb⟩
set_option maxRecDepth 100000 in
set_option maxHeartbeats 4000000 in
theorem lawTells_any (hU : ∀ x ∈ covR [] 0, x ∈ U) (hp63 : (2 : Int) ^ 63 ∈ U) (hm63 : -(2 : Int) ^ 63 ∈ U) {u : Value} {i : Nat} (h : NumIs w u x) (hw : RInv w b vs U) (hi : vs[i]? = some x) :
  Calls Try.prog 22 #[u, .pointer (some ⟨b.p, 0, none⟩), .int .i64 (i : Int)] w fun e w' => e = .returned (.bool true) ∧ ∃ vs' b', RStep U w w' b b' vs vs' := by
 obtain ⟨p, rfl⟩ := h.ptr
 obtain ⟨W1, hW1⟩ : ∃ W1, W1 = w.alloc (.cells #[.pointer p] 30) := ⟨_, rfl⟩
 have hts : TS U w W1 b b vs vs w.heap.size p x := by
  have hb : Below w.heap.size w W1 := by rw [hW1]; exact below_new _ _
  exact ⟨RStep.kept hw hb, by rw [hW1]; exact blk_alloc _ _, h.below hb⟩
 have T := Sealed.mk hts
 obtain ⟨v64, hv64⟩ : ∃ v, v = ri64 x := ⟨_, rfl⟩
 obtain ⟨d64, hd64⟩ : ∃ d : Bool, d = decide (Is64 x) := ⟨_, rfl⟩
 obtain ⟨s, hs⟩ : ∃ s, s = sg x := ⟨_, rfl⟩
 obtain ⟨n, hn⟩ : ∃ n, n = wl x := ⟨_, rfl⟩
 obtain ⟨wt, hwt⟩ : ∃ n, n = weight x := ⟨_, rfl⟩
 obtain ⟨ht, hht⟩ : ∃ n, n = height x := ⟨_, rfl⟩
 have hmi : ∀ W, NumIs W (.agg #[.pointer p]) x → Calls Try.prog 47 #[.agg #[.pointer p]] W fun e w' => e = .returned (.tuple #[.int .i64 v64, .bool d64]) ∧ Below W.heap.size W w' := fun W hN => by
  have := Int_any hN
  rw [show toI64 x = .tuple #[.int .i64 v64, .bool d64] by unfold toI64; rw [hv64, hd64]; rfl] at this
  exact this
 have MI := Sealed.mk hmi
 have H := Sealed.mk (And.intro hw (And.intro hi (And.intro h.1 (And.intro hv64 (And.intro hd64 (And.intro hs (And.intro hn (And.intro hwt hht))))))))
 have HU := Sealed.mk (And.intro hU (And.intro hp63 hm63))
 clear hts hmi hw hi h hv64 hd64 hs hn hwt hht hU hp63 hm63
 go_enter Try.func22, Try.ntmps22
 go_upto_region 1 with fail
 rw [← hW1]
 clear hW1
 have c0 := T.out.cell
 go_upto_region 3 with (first
  | (go_at_call 47; go_must ((with_reducible refine (MI.out _ T.out.num).mono ?_); rintro e w2 ⟨rfl, hb⟩; replace T := Sealed.mk (T.out.adv hb); clear hb))
  | (go_at_call 59; go_must (have hq := rInt_any HU.out.1 HU.out.2.1 HU.out.2.2 _ (Nat.lt_succ_self i) T.out.st.inv (pre_get T.out.st.pre H.out.2.1); rw [T.out.st.p] at hq; (with_reducible refine hq.mono ?_); clear hq; rintro e w3 ⟨vs3, b3, rfl, hs3⟩; replace T := Sealed.mk (T.out.step hs3); rw [← H.out.2.2.2.1, ← H.out.2.2.2.2.1]; clear hs3)))
 clear c0 MI
 obtain ⟨W3, hW3⟩ : ∃ W3, W3 = w3 := ⟨_, rfl⟩
 rw [← hW3] at T ⊢
 clear hW3
 obtain ⟨cap, a2, c2, f0, hcap, hil, f1, hrt, hkM⟩ := T.out.st.inv.form (pre_get T.out.st.pre H.out.2.1)
 rw [T.out.st.p] at f0
 have hel : (enc vs3 x).length = n := by rw [H.out.2.2.2.2.2.2.1]; simp [enc, wl]
 rw [hel] at f1 hrt hkM
 obtain ⟨L, hL⟩ : ∃ L, L = vs3.length := ⟨_, rfl⟩
 rw [← hL] at f0 hcap hil
 have hilI : (i : Int) < (L : Int) := by omega
 have hS : ∀ W, Below W3.heap.size W3 W → W.cell? ⟨w.heap.size, 0, none⟩ = some (.pointer p) ∧ W.cell? ⟨b.p, 0, none⟩ = some (.slice (some ⟨b3.f, 0, none⟩) L cap) ∧ W.cell? ⟨b3.f, i, none⟩ = some (.slice a2 n c2) := fun W hb =>
  ⟨(cell_same (hb.block _ (lt_of_cell T.out.cell)) 0).trans T.out.cell, (cell_same (hb.block _ (lt_of_cell f0)) 0).trans f0, (cell_same (hb.block _ (lt_of_cell f1)) _).trans f1⟩
 have hTm : ∀ W, Below W3.heap.size W3 W → Calls Try.prog 41 #[.agg #[.pointer p]] W fun e w' => ∃ g c ts, e = .returned (.slice g n c) ∧ TermsOwn w' W3.heap.size (.slice g n c) (termsZ x) ts ∧ Below W.heap.size W w' := fun W hb =>
  (Terms_any (T.out.num.below hb)).mono fun e w' q => by
   obtain ⟨a, c, ts, rfl, ho, hb'⟩ := q
   rw [← H.out.2.2.2.2.2.2.1] at ho ⊢
   exact ⟨a, c, ts, rfl, ⟨own_lower ho.own hb.size, ho.len, ho.num⟩, hb'⟩
 have HS := Sealed.mk hS
 have TM := Sealed.mk hTm
 have HR := Sealed.mk (And.intro hrt (And.intro hkM hel))
 clear hS hTm hrt hkM hel f0 f1 hL
 have hn9 : n ≤ 300 := by rw [H.out.2.2.2.2.2.2.1]; exact H.out.2.2.1.1
 go_cut [11, 12] from 25 to 33 (fun lv fv wx => ∃ g c ts, lv = .slice g n c ∧ fv = .slice a2 n c2 ∧ TermsOwn wx W3.heap.size (.slice g n c) (termsZ x) ts ∧ Below W3.heap.size W3 wx)
 case first =>
  have HB := Sealed.mk (below_dr (Below.refl W3.heap.size W3))
  go_region_held3 (fun W => W.cell? ⟨w.heap.size, 0, none⟩ = some (.pointer p) ∧ W.cell? ⟨b.p, 0, none⟩ = some (.slice (some ⟨b3.f, 0, none⟩) L cap) ∧ W.cell? ⟨b3.f, i, none⟩ = some (.slice a2 n c2))
   (exact HS.out _ HB.out)
   (first | (go_at_call 41; go_must ((with_reducible refine (TM.out _ HB.out).mono ?_); rintro e w4 ⟨g4, c4, ts4, rfl, ho, hb⟩; replace HB := Sealed.mk (below_chain HB.out hb); have HO := Sealed.mk ho; clear ho hb)))
  all_goals
   go_wp2_with fail
   go_meet
   case rel => exact ⟨g4, c4, ts4, rfl, rfl, HO.out, HB.out⟩
 case rest =>
  obtain ⟨g, c, ts, rfl, rfl, hto, hb⟩ := hcut
  obtain ⟨W4, hW4⟩ : ∃ W4, W4 = wc := ⟨_, rfl⟩
  rw [← hW4] at hto hb ⊢
  clear hW4
  have HT := Sealed.mk hto
  have T4 := Sealed.mk (T.out.adv hb)
  have HR4 := Sealed.mk (HR.out.1.below hb)
  clear hto hb
  have c0 := T4.out.cell
  go_upto_region 4 with fail
  go_cut [72] from 34 to 72 (fun v wx => v = .bool false ∧ Below W4.heap.size W4 wx)
  case first =>
   have HB := Sealed.mk (Below.refl W4.heap.size W4)
   have b1 : (v64 == v64) = true := by simp
   have b2 : (s == s) = true := by simp
   have b3 : ((n : Int) == (n : Int)) = true := by simp
   have b4 : ((wt : Int) == (wt : Int)) = true := by simp
   have b5 : ((ht : Int) == (ht : Int)) = true := by simp
   go_wp2_with (first
    | (go_at_call 42; go_must (have hq := Sign_any T4.out.num; rw [← H.out.2.2.2.2.2.1] at hq; (with_reducible refine hq.mono ?_); clear hq; rintro e w5 ⟨rfl, hb⟩; replace T4 := Sealed.mk (T4.out.adv hb); replace HB := Sealed.mk (below_chain HB.out hb); clear hb))
    | (go_at_call 60; go_must (have hq := rSign_any T4.out.st.inv (pre_get T4.out.st.pre H.out.2.1); rw [T4.out.st.p, ← H.out.2.2.2.2.2.1] at hq; (with_reducible refine hq.mono ?_); clear hq; rintro e w6 ⟨rfl, rfl⟩; have c6 := T4.out.cell))
    | (go_at_call 44; go_must (have hq := Weight_any T4.out.num; rw [← H.out.2.2.2.2.2.2.2.1] at hq; (with_reducible refine hq.mono ?_); clear hq; rintro e w7 ⟨rfl, hb⟩; replace T4 := Sealed.mk (T4.out.adv hb); replace HB := Sealed.mk (below_chain HB.out hb); clear hb))
    | (go_at_call 61; go_must (have hq := rWeight_any T4.out.st.inv (pre_get T4.out.st.pre H.out.2.1); rw [T4.out.st.p, ← H.out.2.2.2.2.2.2.2.1] at hq; (with_reducible refine hq.mono ?_); clear hq; rintro e w8 ⟨rfl, hb⟩; replace T4 := Sealed.mk (T4.out.adv hb); replace HB := Sealed.mk (below_chain HB.out hb); clear hb; have c8 := T4.out.cell))
    | (go_at_call 43; go_must (have hq := Height_any T4.out.num; rw [← H.out.2.2.2.2.2.2.2.2] at hq; (with_reducible refine hq.mono ?_); clear hq; rintro e w9 ⟨rfl, hb⟩; replace T4 := Sealed.mk (T4.out.adv hb); replace HB := Sealed.mk (below_chain HB.out hb); clear hb))
    | (go_at_call 62; go_must (have hq := rHeight_any T4.out.st.inv (pre_get T4.out.st.pre H.out.2.1); rw [T4.out.st.p, ← H.out.2.2.2.2.2.2.2.2] at hq; (with_reducible refine hq.mono ?_); clear hq; rintro e w10 ⟨rfl, hb⟩; replace T4 := Sealed.mk (T4.out.adv hb); replace HB := Sealed.mk (below_chain HB.out hb); clear hb)))
   go_meet
   case rel => exact ⟨by first | rfl | simp, HB.out⟩
  case rest =>
   obtain ⟨rfl, hb⟩ := hcut
   obtain ⟨W5, hW5⟩ : ∃ W5, W5 = wc := ⟨_, rfl⟩
   rw [← hW5] at hb ⊢
   clear hW5 c0
   have T5 := Sealed.mk (T4.out.adv hb)
   have HT5 := Sealed.mk (HT.out.below hb)
   have HR5 := Sealed.mk (HR4.out.below hb)
   clear hb T4 HR4 HT T
   go_wp2_with fail
   go_loopg [13] n (fun jj iv W => ∃ j : Nat, jj = n - j ∧ j ≤ n ∧ iv = .int .i64 (j : Int) ∧ Sealed (Below W5.heap.size W5 W))
   case atStart => exact ⟨0, rfl, Nat.zero_le _, rfl, ⟨Below.refl _ _⟩⟩
   case round =>
    obtain ⟨j, rfl, hj, rfl, HJ⟩ := hrel
    by_cases hjn : j < n
    ·obtain ⟨⟨m, e⟩, hte⟩ : ∃ t, (form x)[j]? = some t := ⟨_, List.getElem?_eq_getElem (by have := H.out.2.2.2.2.2.2.1; unfold wl at this; omega)⟩
     have hex : e ∈ exps x := mem_exps.2 ⟨_, List.mem_of_getElem? hte, rfl⟩
     have haE := allowed_part H.out.2.2.1 (.here hex)
     have htz : (termsZ x)[j]? = some (m, (e : Int)) := by unfold termsZ; rw [List.getElem?_map, hte]; rfl
     have hto := HT5.out.below HJ.out
     obtain ⟨gg, cc, e1⟩ := own_form hto.own (by rw [termsZ_length, ← H.out.2.2.2.2.2.2.1]; omega)
     obtain ⟨rfl, -, rfl⟩ := Value.slice.inj e1
     obtain ⟨q, d0, d1, hq⟩ := terms_get hto htz
     obtain ⟨pe, hpei, hpe⟩ := exp_place T5.out.st.inv.cl (pre_get T5.out.st.pre H.out.2.1) hex
     have hix : vs3.idxOf (e : Int) = pe := idxOf_of T5.out.st.inv.cl.nodup hpe
     have hle : (enc vs3 x)[j]? = some (m, pe) := by simp [enc, hte, hix]
     obtain ⟨-, -, -, hcl⟩ := (HR5.out.below HJ.out).cells
     obtain ⟨bb, oo, rfl, d2, d3⟩ := hcl j _ hle
     simp only at d0 d1 d2 d3
     have hC : ∀ W, Below wr.heap.size wr W → W.cell? ⟨gg, j * 2, none⟩ = some (.bool m) ∧ W.cell? ⟨gg, j * 2 + 1, none⟩ = some (.pointer q) ∧ W.cell? ⟨bb, oo + j * 2, none⟩ = some (.bool m) ∧ W.cell? ⟨bb, oo + j * 2 + 1, none⟩ = some (.int .i64 (pe : Int)) := fun W hb =>
      ⟨(cell_same (hb.block _ (lt_of_cell d0)) _).trans d0, (cell_same (hb.block _ (lt_of_cell d1)) _).trans d1, (cell_same (hb.block _ (lt_of_cell d2)) _).trans d2, (cell_same (hb.block _ (lt_of_cell d3)) _).trans d3⟩
     have hBy : ∀ W, Below wr.heap.size wr W → NumIs W (.agg #[.pointer q]) (e : Int) := fun W hb => hq.below hb
     have hRy : ∀ W, Below wr.heap.size wr W → Calls Try.prog 51 #[.pointer (some ⟨b.p, 0, none⟩), .int .i64 (pe : Int)] W fun e' w' => ∃ a c, e' = .returned (.slice a (bytesN (e : Int)).length c) ∧ BytesAt w' (.slice a (bytesN (e : Int)).length c) (bytesN (e : Int)) ∧ Below W.heap.size W w' := fun W hb => by
      have := rBytes_at ((T5.out.st.inv.below HJ.out).below hb) hpe haE
      rw [T5.out.st.p] at this
      exact this
     have HC := Sealed.mk (And.intro hC (And.intro hBy hRy))
     have hjn' : (j : Int) < (n : Int) := by omega
     clear hC hBy hRy hpe hpei hix hle hcl hq hto htz hex haE hte e1 d0 d1 d2 d3
     have bm : (m == m) = true := by simp
     go_upto_region 9 with fail
     go_cut [106] from 79 to 106 (fun v wx => v = .bool false ∧ Below wr.heap.size wr wx)
     case first =>
      have HB := Sealed.mk (below_dr (Below.refl wr.heap.size wr))
      go_region_held3 (fun W => W.cell? ⟨gg, j * 2, none⟩ = some (.bool m) ∧ W.cell? ⟨gg, j * 2 + 1, none⟩ = some (.pointer q) ∧ W.cell? ⟨bb, oo + j * 2, none⟩ = some (.bool m) ∧ W.cell? ⟨bb, oo + j * 2 + 1, none⟩ = some (.int .i64 (pe : Int)))
       (exact HC.out.1 _ HB.out)
       (first
        | (go_at_call 23; go_must ((with_reducible refine (Bytes_at (HC.out.2.1 _ HB.out)).mono ?_); rintro e' w11 ⟨a11, c11, rfl, hby, hb⟩; replace HB := Sealed.mk (below_chain HB.out hb); have HY1 := Sealed.mk hby; clear hby hb))
        | (go_at_call 51; go_must ((with_reducible refine (HC.out.2.2 _ HB.out).mono ?_); rintro e' w12 ⟨a12, c12, rfl, hby, hb⟩; replace HB := Sealed.mk (below_chain HB.out hb); replace HY1 := Sealed.mk (HY1.out.below hb); have HY2 := Sealed.mk hby; clear hby hb))
        | (go_at_call 19; go_must (have hq := Same_any HY1.out HY2.out; rw [decide_eq_true (rfl : bytesN (e : Int) = bytesN (e : Int))] at hq; (with_reducible refine hq.mono ?_); clear hq; rintro e' w13 ⟨rfl, rfl⟩)))
      all_goals
       go_wp2_with fail
       go_meet
       case rel => exact ⟨by first | rfl | simp, HB.out⟩
     case rest =>
      obtain ⟨rfl, hb⟩ := hcut
      obtain ⟨W6, hW6⟩ : ∃ W6, W6 = wc := ⟨_, rfl⟩
      rw [← hW6] at hb ⊢
      clear hW6
      have HJ2 := Sealed.mk (below_chain HJ.out hb)
      clear hb
      go_wp2_with fail
      go_roundg (n - (j + 1))
      case measure => omega
      case rel => exact ⟨j + 1, rfl, by omega, by push_cast; rfl, HJ2⟩
    ·obtain rfl : j = n := by omega
     have T6 := Sealed.mk (T5.out.adv HJ.out)
     have c6 := T6.out.cell
     have hxy : (bytesN x).length ≤ 1000000000 := bytes_bounds H.out.2.2.1
     clear hxy
     go_wp2_with (first
      | (go_at_call 23; go_must ((with_reducible refine (Bytes_at T6.out.num).mono ?_); rintro e' w14 ⟨a14, c14, rfl, hby, hb⟩; replace T6 := Sealed.mk (T6.out.adv hb); have HY1 := Sealed.mk hby; clear hby hb))
      | (go_at_call 51; go_must (have hq := rBytes_at T6.out.st.inv (pre_get T6.out.st.pre H.out.2.1) H.out.2.2.1; rw [T6.out.st.p] at hq; (with_reducible refine hq.mono ?_); clear hq; rintro e' w15 ⟨a15, c15, rfl, hby, hb⟩; replace T6 := Sealed.mk (T6.out.adv hb); replace HY1 := Sealed.mk (HY1.out.below hb); have HY2 := Sealed.mk hby; clear hby hb))
      | (go_at_call 19; go_must (have hq := Same_any HY1.out HY2.out; rw [decide_eq_true (rfl : bytesN x = bytesN x)] at hq; (with_reducible refine hq.mono ?_); clear hq; rintro e' w16 ⟨rfl, rfl⟩)))
     go_ret
     exact ⟨rfl, vs3, b3, T6.out.st⟩
end Go.Proofs.Ytgchfbfgjanaiaa
