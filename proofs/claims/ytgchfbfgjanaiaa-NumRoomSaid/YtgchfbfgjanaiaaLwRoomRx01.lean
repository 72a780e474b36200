/-
  numbers of low exponents: plain
  the numbers of NumRoom: plain
  what NumRoom's loop holds
  sandreckonerref01.New
  sandreckonerlaw01.NumRoom: the walk
  what a law reads: numbers; read again behind the call
-/
import Derived.Test.YtgchfbfgjanaiaaK04
import Derived.Test.YtgchfbfgjanaiaaJ20
import Derived.Test.YtgchfbfgjanaiaaK06
import Derived.Test.YtgchfbfgjanaiaaK01
import Derived.Test.YtgchfbfgjanaiaaJ35
import Derived.Deep.LoopGhost
import Derived.Deep.DeepCutAuto
import Derived.Deep.CutRange
import Derived.Deep.CutBlock
import Derived.Deep.RegionHeld3
import Derived.StillTailTactics
import Derived.Test.YtgchfbfgjanaiaaJ34
import Derived.ProofKit
import Derived.OpenShut
import Derived.WideKeyArgs
import Derived.Deep.Slices
set_option linter.unusedSimpArgs false
set_option linter.unusedVariables false
namespace Go.Proofs.Ytgchfbfgjanaiaa
open Go.RowKit Sr
theorem under_half : ∀ (l : List T) (n : Nat), Under n l → 2 * l.length ≤ n + 1
  | [], _, _ => by simp
  | [t], n, h => by have := h.1; simp only [List.length_singleton]; omega
  | t :: s :: l, n, h => by
    have ih := under_half (s :: l) (t.2 - 1) h.2.1
    have h1 := h.1
    have h2 := h.2.2 (by simp)
    rw [List.length_cons]
    omega
theorem part_low {x : Int} {M : Nat} (h : ∀ e ∈ exps x, e ≤ M) {e : Nat} (he : Part e x) : e ≤ M := by
  rcases part_iff.1 he with ⟨f, hf, rfl | hp⟩
  · exact h _ hf
  · have h1 := h _ hf
    have h2 := hp.lt
    simp at h2
    omega
theorem height_1023 {e : Nat} (he : e ≤ 1023) : height (e : Int) ≤ 11 := by
  have h1 : ∀ f ∈ exps (e : Int), f ≤ 10 := fun f hf => by
    have h1 := exps_pow hf
    apply Classical.byContradiction
    intro hge
    have h2 := pow_mono (show 12 ≤ f + 1 by omega)
    have h3 : (2 : Int) ^ 12 = 4096 := by decide
    simp at h1
    omega
  have h2 := height_plist _ (Nat.lt_succ_self (e : Int).natAbs)
  have h3 := nodup_sub_nat (a := plist (e : Int)) (b := List.range 11) (plist_nodup _) fun f hf => by
    have := part_low h1 (mem_plist.1 hf)
    rw [List.mem_range]; omega
  simp at h3
  omega
theorem foldr_max_le (f : Nat → Nat) (n : Nat) : ∀ l : List Nat, (∀ e ∈ l, f e ≤ n) → l.foldr (fun e m => max (f e) m) 0 ≤ n
  | [], _ => by simp
  | a :: l, h => by
    have h1 := foldr_max_le f n l fun e he => h e (by simp [he])
    have h2 := h a (by simp)
    simp only [List.foldr_cons]
    omega
theorem low_allowed {x : Int} {M : Nat} (hM : M ≤ 1023) (h : ∀ e ∈ exps x, e ≤ M) (hw : wl x ≤ 300) : Allowed x ∧ weight x ≤ 1025 ∧ height x ≤ 12 := by
  have hwt : weight x ≤ 1025 := by
    have := weight_sub (x := x) (L := List.range 1024) fun e he => by
      have := part_low h he
      rw [List.mem_range]; omega
    simpa using this
  have hht : height x ≤ 12 := by
    rw [height_eq]
    refine foldr_max_le (fun e : Nat => height (e : Int) + 1) 12 _ fun e he => ?_
    have := height_1023 (e := e) (by have := h e he; omega)
    show height (e : Int) + 1 ≤ 12
    omega
  refine ⟨⟨hw, fun e he => ?_, by omega, by omega⟩, hwt, hht⟩
  have h1 := part_low h he
  have h2 := form_length_le (x := (e : Int)) (n := 300) fun f hf => by
    have h1 := exps_pow hf
    apply Classical.byContradiction
    intro hge
    have h2 := pow_mono (show 12 ≤ f + 1 by omega)
    have h3 : (2 : Int) ^ 12 = 4096 := by decide
    simp at h1
    omega
  exact h2
theorem shiftR_nat (x : Int) (n : Nat) : shiftR x n = gv (2 ^ n * x) := by unfold shiftR; rw [if_pos (whole_nat x n), shl_nat]
end Go.Proofs.Ytgchfbfgjanaiaa

namespace Go.Proofs.Ytgchfbfgjanaiaa
open Go.RowKit Sr
def tw (n : Nat) : Nat → Nat
  | 0 => n
  | k + 1 => 2 ^ tw n k
theorem tw_succ (n k : Nat) : ((tw n (k + 1) : Nat) : Int) = 2 ^ tw n k := by simp [tw]
theorem tw_allowed {n : Nat} (hn : n ≤ 700) : ∀ k, k ≤ 8 → Allowed (tw n k : Int) ∧ weight (tw n k : Int) ≤ 1025 + k ∧ height (tw n k : Int) ≤ 12 + k := by
  intro k
  induction k with
  | zero =>
    intro _
    have h1 : ∀ f ∈ exps (n : Int), f ≤ 10 := fun f hf => by
      have h1 := exps_pow hf
      apply Classical.byContradiction
      intro hge
      have h2 := pow_mono (show 12 ≤ f + 1 by omega)
      have h3 : (2 : Int) ^ 12 = 4096 := by decide
      simp at h1
      omega
    have h2 := form_length_le (x := (n : Int)) (n := 11) fun e he => by have := h1 e he; omega
    have := low_allowed (x := (n : Int)) (M := 10) (by decide) h1 (by unfold wl; omega)
    exact this
  | succ k ih =>
    intro hk
    obtain ⟨i1, i2, i3⟩ := ih (by omega)
    obtain ⟨a1, a2, a3⟩ := allowed_pow2 i1 (by omega) (by omega)
    rw [tw_succ]
    exact ⟨a1, by omega, by omega⟩
theorem tw_shift {n k : Nat} (hn : n ≤ 700) (hk : k < 8) : shiftR 1 (tw n k : Int) = ((tw n (k + 1) : Int), 0) := by
  rw [shiftR_nat, Int.mul_one, ← tw_succ]
  exact gv_ok (tw_allowed hn (k + 1) (by omega)).1
def roomP : List Nat := List.range 1024 ++ (List.range 701).flatMap fun n => (List.range 9).map fun k => tw n k
theorem roomP_tw {n k : Nat} (hn : n ≤ 700) (hk : k ≤ 8) : tw n k ∈ roomP :=
  List.mem_append.2 (.inr (List.mem_flatMap.2 ⟨n, List.mem_range.2 (by omega), List.mem_map.2 ⟨k, List.mem_range.2 (by omega), rfl⟩⟩))
theorem roomP_low {n : Nat} (hn : n < 1024) : n ∈ roomP := List.mem_append.2 (.inl (List.mem_range.2 hn))
theorem exps_low {n : Nat} (hn : n < 1024) {f : Nat} (hf : f ∈ exps (n : Int)) : f ≤ 11 := by
  have h1 := exps_pow hf
  apply Classical.byContradiction
  intro hge
  have h2 := pow_mono (show 13 ≤ f + 1 by omega)
  have h3 : (2 : Int) ^ 13 = 8192 := by decide
  simp at h1
  omega
theorem roomP_hull : Hull roomP where
  up p hp f hf := by
    unfold roomP at hp
    rcases List.mem_append.1 hp with h | h
    · have := exps_low (List.mem_range.1 h) hf
      exact roomP_low (by omega)
    · obtain ⟨n, hn, h⟩ := List.mem_flatMap.1 h
      obtain ⟨k, hk, rfl⟩ := List.mem_map.1 h
      rw [List.mem_range] at hn hk
      cases k with
      | zero =>
        have := exps_low (n := n) (by omega) hf
        exact roomP_low (by omega)
      | succ k =>
        rw [tw_succ] at hf
        have e : exps (2 ^ tw n k) = [tw n k] := by simp [exps, form_pow2]
        rw [e] at hf
        simp at hf
        subst hf
        exact roomP_tw (by omega) (by omega)
  len p hp := by
    unfold roomP at hp
    rcases List.mem_append.1 hp with h | h
    · have := form_length_le (x := (p : Int)) (n := 12) fun e he => by have := exps_low (List.mem_range.1 h) he; omega
      unfold wl; omega
    · obtain ⟨n, hn, h⟩ := List.mem_flatMap.1 h
      obtain ⟨k, hk, rfl⟩ := List.mem_map.1 h
      rw [List.mem_range] at hn hk
      have := (tw_allowed (n := n) (by omega) k (by omega)).1.1
      unfold wl; omega
theorem roomP_length : roomP.length ≤ 7400 := by
  have h : ∀ l : List Nat, (l.flatMap fun n => (List.range 9).map fun k => tw n k).length = l.length * 9 := by
    intro l
    induction l with
    | nil => rfl
    | cons a l ih => simp only [List.flatMap_cons, List.length_append, List.length_map, List.length_range, ih, List.length_cons]; omega
  unfold roomP
  rw [List.length_append, h, List.length_range, List.length_range]
  omega
def roomT (r L i : Nat) : Bool × Nat := (i % 3 == 1, tw (2 * i + r) L)
def roomL (r L c : Nat) : List (Bool × Nat) := (List.range c).map (roomT r L)
theorem roomL_length (r L c : Nat) : (roomL r L c).length = c := by simp [roomL]
theorem roomL_succ (r L c : Nat) : roomL r L (c + 1) = roomL r L c ++ [roomT r L c] := by simp [roomL, List.range_succ]
theorem roomL_mem {r L c : Nat} (hr : r < 60) (hc : c ≤ 310) (hL : L ≤ 8) : ∀ t ∈ roomL r L c, t.2 ∈ roomP := fun t ht => by
  unfold roomL at ht
  obtain ⟨i, hi, rfl⟩ := List.mem_map.1 ht
  rw [List.mem_range] at hi
  exact roomP_tw (by omega) hL
def roomZ (l : List (Bool × Nat)) : List (Bool × Int) := l.map fun t => (t.1, (t.2 : Int))
theorem roomZ_append (a b : List (Bool × Nat)) : roomZ (a ++ b) = roomZ a ++ roomZ b := by simp [roomZ]
theorem roomZ_length (l : List (Bool × Nat)) : (roomZ l).length = l.length := by simp [roomZ]
theorem roomZ_val (l : List (Bool × Nat)) : termsV (roomZ l) = val l := by
  unfold termsV termsT roomZ
  rw [List.map_map]
  congr 1
  conv => rhs; rw [← List.map_id l]
  exact List.map_congr_left fun t _ => by simp
theorem roomZ_sum {l : List (Bool × Nat)} (h : l.length ≤ 1000) : sumR (roomZ l) = gv (val l) := by
  unfold sumR
  rw [if_neg (by rintro ⟨t, ht, h⟩; unfold roomZ at ht; obtain ⟨s, _, rfl⟩ := List.mem_map.1 ht; simp only at h; omega), if_neg (by rw [roomZ_length]; omega), roomZ_val]
def roomU (x : Int) : List Int := x :: 2 ^ 63 :: -(2 ^ 63) :: covR roomP 310
theorem room_length3 {x y z : Int} {P : List Nat} (hP : P.length ≤ 7400) : (x :: y :: z :: covR P 310).length ≤ roomW := by
  have h1 := covR_length P 310
  simp only [List.length_cons]
  unfold roomW
  generalize (covR P 310).length = a at h1 ⊢
  generalize P.length = b at h1 hP
  omega
theorem roomU_length (x : Int) : (roomU x).length ≤ roomW := room_length3 roomP_length
theorem roomU_cov {x y : Int} (h : y ∈ covR roomP 310) : y ∈ roomU x := by simp [roomU, h]
theorem roomU_base {x y : Int} (h : y ∈ covR [] 0) : y ∈ roomU x := by
  unfold covR at h
  simp only [List.flatMap_nil, List.nil_append, List.mem_map, List.mem_range] at h
  obtain ⟨n, hn, rfl⟩ := h
  exact roomU_cov (covR_low (by omega))
theorem roomU_tw {x : Int} {n k : Nat} (hn : n ≤ 700) (hk : k ≤ 8) : (tw n k : Int) ∈ roomU x := roomU_cov (covR_at (k := 0) (roomP_tw hn hk) (by omega))
theorem room_asks {x : Int} {r L c : Nat} (hr : r < 60) (hc : c ≤ 310) (hL : L ≤ 8) : SumAsk (roomU x) (roomL r L c) :=
  sum_asks roomP_hull (by decide) (fun _ h => roomU_cov h) (roomL_mem hr hc hL) (by rw [roomL_length]; exact hc)
end Go.Proofs.Ytgchfbfgjanaiaa

namespace Go.Proofs.Ytgchfbfgjanaiaa
open Go.RowKit Sr
structure RmS (U : List Int) (w W : World) (bp : Nat) (b : RB) (vs : List Int) (L : List (Bool × Nat)) (lv dv : Value) (n : Nat) : Prop where
  inv : RInv W b vs U
  p : b.p = bp
  below : Below w.heap.size w W
  mge : ∀ q, b.M q → w.heap.size ≤ q
  terms : ∃ ts, TermsOwn W w.heap.size lv (roomZ L) ts
  due : W.ownsRow w.heap.size 49 2 dv n (tcells (encL vs L))
  cov : CovL vs L
  free : ∀ q, dv.ownBlock = some q → ¬ InForms W b vs q
  len : n = L.length
section
variable {U : List Int} {w W W' : World} {bp : Nat} {b b2 : RB} {vs vs2 : List Int} {L : List (Bool × Nat)} {lv dv : Value} {n : Nat}
theorem forms_same {M : Nat → Prop} (e : Ext M W W') (hf : ¬ M b.f) (hi : RInv W b vs U) {q : Nat} (h : InForms W' b vs q) : InForms W b vs q := by
  obtain ⟨i, v, h1, h2, h3⟩ := h
  exact ⟨i, v, h1, by rw [← cell_same (e.block _ (hi.lt b.f (.inr rfl)) hf) i]; exact h2, h3⟩
theorem RmS.far (h : RmS U w W bp b vs L lv dv n) {M : Nat → Prop} {t : Nat} (e : Ext M W W') (hM : ∀ q, M q → w.heap.size ≤ q) (ht : ∀ q, M q → TyBlk W q t) (h1 : t ≠ 88 ∧ t ≠ 42 ∧ t ≠ 49) (h2 : t ≠ 98 ∧ t ≠ 96 ∧ t ≠ 128 ∧ t ≠ 47) : RmS U w W' bp b vs L lv dv n := by
  have hty : ∀ q, M q → ∀ t', TyBlk W q t' → t' = t := fun q hq t' ⟨cs, fz, e1⟩ => by
    obtain ⟨cs2, fz2, e2⟩ := ht q hq
    rw [e1] at e2
    simp only [Option.some.injEq, Obj.cells.injEq] at e2
    exact e2.2.1
  obtain ⟨ts, hts⟩ := h.terms
  have hf : ¬ M b.f := fun hm => by
    obtain ⟨cap, cur, f1, f2, -⟩ := h.inv.forms
    exact h1.2.1 (hty _ hm _ ⟨_, _, f2⟩).symm
  refine ⟨h.inv.other e fun q hq t' h' => by rw [hty q hq t' h']; exact h1, h.p, ?_, h.mge, ⟨ts, hts.keep e (fun q hq t' h' => by rw [hty q hq t' h']; exact ⟨h2.1, h2.2.1, h2.2.2.1⟩) fun q hq hm => ?_⟩, own_ext h.due e fun q hq hm => ?_, h.cov, fun q hq hh => h.free q hq (forms_same e hf h.inv hh), h.len⟩
  · exact ⟨e.os.trans h.below.os, e.tape.trans h.below.tape, e.output.trans h.below.output, Nat.le_trans h.below.size e.size, fun q hq => (e.block q (Nat.lt_of_lt_of_le hq h.below.size) fun hm => by have := hM q hm; omega).trans (h.below.block q hq)⟩
  · obtain ⟨cs, fz, e1⟩ := own_typ5 hts.own hq
    exact h2.2.2.2 (hty q hm _ ⟨_, _, e1⟩).symm
  · obtain ⟨cs, fz, e1⟩ := own_typ5 h.due hq
    exact h1.2.2 (hty q hm _ ⟨_, _, e1⟩).symm
theorem RmS.adv (h : RmS U w W bp b vs L lv dv n) (e : Below W.heap.size W W') : RmS U w W' bp b vs L lv dv n := by
  obtain ⟨ts, hts⟩ := h.terms
  have hx : Ext noB W W' := Ext.of_below e
  exact ⟨h.inv.below e, h.p, below_chain h.below e, h.mge, ⟨ts, hts.below e⟩, own_ext h.due hx (fun _ _ h => h), h.cov, fun q hq hh => h.free q hq (forms_same hx (fun h => h) h.inv hh), h.len⟩
theorem RmS.step (h : RmS U w W bp b vs L lv dv n) (s : RStep U W W' b b2 vs vs2) : RmS U w W' bp b2 vs2 L lv dv n := by
  obtain ⟨ts, hts⟩ := h.terms
  have hdM : ∀ q, dv.ownBlock = some q → ¬ b.M q := fun q hq => by
    obtain ⟨cs, fz, e1⟩ := own_typ5 h.due hq
    exact h.inv.notM ⟨_, _, e1⟩ (by decide) (by decide)
  refine ⟨s.inv, s.p.trans h.p, ?_, fun q hq => ?_, ⟨ts, hts.step h.inv s⟩, ?_, h.cov.pre s.pre, fun q hq hh => ?_, h.len⟩
  · exact ⟨s.ext.os.trans h.below.os, s.ext.tape.trans h.below.tape, s.ext.output.trans h.below.output, Nat.le_trans h.below.size s.ext.size, fun q hq => (s.ext.block q (Nat.lt_of_lt_of_le hq h.below.size) fun hm => by have := h.mge q hm; omega).trans (h.below.block q hq)⟩
  · rcases s.news q hq with h1 | h1
    · exact h.mge q h1
    · exact Nat.le_trans h.below.size h1
  · rw [encL_prefix s.pre h.cov]
    exact own_ext h.due s.ext hdM
  · rcases s.forms q hh with h1 | h1
    · exact h.free q hq h1
    · have := (h.due.lt q hq).2; omega
theorem RmS.dueT (h : RmS U w W bp b vs L lv dv n) (hg : W.grownBy W' lv.ownBlock) : W'.ownsRow w.heap.size 49 2 dv n (tcells (encL vs L)) := by
  obtain ⟨ts, hts⟩ := h.terms
  have hx : Ext (fun q => lv.ownBlock = some q) W W' := ⟨hg.os, hg.tape, hg.output, hg.size, fun q hq hn => hg.block q hq fun e => hn e.symm⟩
  refine own_ext h.due hx fun q hq hl => ?_
  obtain ⟨cs, fz, e9⟩ := own_typ5 h.due hq
  obtain ⟨cs2, fz2, e8⟩ := own_typ5 hts.own hl
  rw [e9] at e8
  simp only [Option.some.injEq, Obj.cells.injEq] at e8
  exact absurd e8.2.1 (by decide)
theorem RmS.pushT (h : RmS U w W bp b vs L lv dv n) {ts : List (Bool × Option Addr)} (hts : TermsOwn W w.heap.size lv (roomZ L) ts) {W1 W2 W3 : World} {m : Bool} {k j : Nat} {p : Option Addr} {lv' dv' : Value}
    (e1 : Below W.heap.size W W1) (hx : NumIs W (.agg #[.pointer p]) (k : Int)) (hg : W1.grownBy W2 lv.ownBlock) (ho : W2.ownsRow w.heap.size 47 2 lv' (n + 1) (trow ts ++ [.bool m, .pointer p]))
    (hj : vs[j]? = some (k : Int)) (e3 : Below W2.heap.size W2 W3) (hg2 : W3.grownBy W' dv.ownBlock) (hn2 : NewOr W3 dv dv') (ho2 : W'.ownsRow w.heap.size 49 2 dv' (n + 1) (tcells (encL vs L) ++ [.bool m, .int .i64 (j : Int)])) :
    RmS U w W' bp b vs (L ++ [(m, k)]) lv' dv' (n + 1) := by
  have hx2 : Ext (fun q => lv.ownBlock = some q) W1 W2 := ⟨hg.os, hg.tape, hg.output, hg.size, fun q hq hn => hg.block q hq fun e => hn e.symm⟩
  have hx4 : Ext (fun q => dv.ownBlock = some q) W3 W' := ⟨hg2.os, hg2.tape, hg2.output, hg2.size, fun q hq hn => hg2.block q hq fun e => hn e.symm⟩
  have hb1 := h.adv e1
  have hts1 := hts.below e1
  have hL : n = (roomZ L).length := by rw [roomZ_length]; exact h.len
  have hty : ∀ q, lv.ownBlock = some q → TyBlk W1 q 47 := fun q hq => by
    obtain ⟨cs, fz, e⟩ := own_typ5 hts1.own hq
    exact ⟨_, _, e⟩
  have htyd : ∀ q, dv.ownBlock = some q → TyBlk W1 q 49 := fun q hq => by
    obtain ⟨cs, fz, e⟩ := own_typ5 hb1.due hq
    exact ⟨_, _, e⟩
  have hty1 : ∀ q t, TyBlk W1 q 47 → TyBlk W1 q t → t = 47 := fun q t ⟨_, _, a1⟩ ⟨_, _, a2⟩ => by
    rw [a1] at a2
    simp only [Option.some.injEq, Obj.cells.injEq] at a2
    exact a2.2.1.symm
  have hdl : ∀ q, dv.ownBlock = some q → ¬ lv.ownBlock = some q := fun q hq hl => by
    have := hty1 q _ (hty q hl) (htyd q hq)
    exact absurd this (by decide)
  -- behind the first append
  have hinv2 : RInv W2 b vs U := hb1.inv.other hx2 fun q hq t ht => by rw [hty1 q t (hty q hq) ht]; decide
  have hbf : ¬ lv.ownBlock = some b.f := fun hm => by
    obtain ⟨cap, cur, f1, f2, -⟩ := hb1.inv.forms
    exact absurd (hty1 _ _ (hty _ hm) ⟨_, _, f2⟩) (by decide)
  have hdue2 := own_ext hb1.due hx2 fun q hq => hdl q hq
  have hfree2 : ∀ q, dv.ownBlock = some q → ¬ InForms W2 b vs q := fun q hq hh => hb1.free q hq (forms_same hx2 hbf hb1.inv hh)
  have hts2 := hts.push e1 hL (hx.below e1) hg ho
  have hbel2 := hb1.below.grown hg hb1.below.size fun q hq => own_ge hts1.own q hq
  -- behind the second
  have hinv3 := hinv2.below e3
  have hx3 : Ext noB W2 W3 := Ext.of_below e3
  have hdue3 := own_ext hdue2 hx3 (fun _ _ h => h)
  have hfree3 : ∀ q, dv.ownBlock = some q → ¬ InForms W3 b vs q := fun q hq hh => hfree2 q hq (forms_same hx3 (fun h => h) hinv2 hh)
  have hdM : ∀ q, dv.ownBlock = some q → ¬ b.M q := fun q hq => by
    obtain ⟨cs, fz, e⟩ := own_typ5 hdue3 hq
    exact hinv3.notM ⟨_, _, e⟩ (by decide) (by decide)
  have hinv4 : RInv W' b vs U := by
    rcases hdv : dv.ownBlock with _ | g
    · exact hinv3.ext (N := noB) ⟨hg2.os, hg2.tape, hg2.output, hg2.size, fun q hq _ => hg2.block q hq (by rw [hdv]; simp)⟩ fun _ h _ => h
    · refine hinv3.put (g := g) ⟨hg2.os, hg2.tape, hg2.output, hg2.size, fun q hq hn => hg2.block q hq (by rw [hdv]; simpa using hn)⟩ (hdM g hdv) (hfree3 g hdv)
  have hfr4 : ∀ q, InForms W' b vs q → InForms W3 b vs q := fun q hh => forms_same hx4 (fun hm => hdM _ hm (.inr rfl)) hinv3 hh
  refine ⟨hinv4, h.p, ?_, h.mge, ⟨ts ++ [(m, p)], ?_⟩, ?_, ?_, fun q hq hh => ?_, by rw [List.length_append, h.len]; rfl⟩
  · have h3 := below_chain hbel2 e3
    exact h3.grown hg2 h3.size fun q hq => own_ge hdue3 q hq
  · have e : roomZ (L ++ [(m, k)]) = roomZ L ++ [(m, (k : Int))] := by rw [roomZ_append]; rfl
    rw [e]
    refine (hts2.below e3).keep hx4 (fun q hq t ht => ?_) fun q hq hm => ?_
    · obtain ⟨cs, fz, e9⟩ := own_typ5 hdue3 hq
      obtain ⟨cs2, fz2, e8⟩ := ht
      rw [e9] at e8
      simp only [Option.some.injEq, Obj.cells.injEq] at e8
      rw [← e8.2.1]; decide
    · obtain ⟨cs, fz, e9⟩ := own_typ5 hdue3 hm
      obtain ⟨cs2, fz2, e8⟩ := own_typ5 (hts2.below e3).own hq
      rw [e9] at e8
      simp only [Option.some.injEq, Obj.cells.injEq] at e8
      exact absurd e8.2.1 (by decide)
  · have e : tcells (encL vs (L ++ [(m, k)])) = tcells (encL vs L) ++ [.bool m, .int .i64 (j : Int)] := by
      rw [encL_app, tcells_append]
      have : encL vs [(m, k)] = [(m, j)] := by simp [encL, idxOf_of h.inv.cl.nodup hj]
      rw [this]; rfl
    rw [e]; exact ho2
  · intro t ht
    rcases List.mem_append.1 ht with ht | ht
    · exact h.cov t ht
    · obtain rfl := List.mem_singleton.1 ht
      exact List.mem_of_getElem? hj
  · rcases hn2 with e | ⟨g, e, hg9⟩
    · exact hfree3 q (by rw [← e]; exact hq) (hfr4 q hh)
    · rw [e] at hq
      obtain rfl := Option.some.inj hq
      have := (hinv3.inForms (hfr4 _ hh)).1
      omega
end
end Go.Proofs.Ytgchfbfgjanaiaa

namespace Go.Proofs.Ytgchfbfgjanaiaa
open Go.RowKit Sr
set_option maxRecDepth 100000 in
theorem rNew_any {w : World} {U : List Int} (h0 : (0 : Int) ∈ U) (hU : U.length ≤ roomW) :
    Calls Try.prog 16 #[] w fun e w' => ∃ b, e = .returned (.pointer (some ⟨b.p, 0, none⟩)) ∧ RInv w' b [0] U ∧ Below w.heap.size w w' ∧ (∀ k, b.M k → w.heap.size ≤ k) ∧ ∀ q, ¬ InForms w' b [0] q := by
  go_enter Try.func16, Try.ntmps16
  go_wp2_with fail
  go_ret
  have hP : (w.alloc (.cells #[.slice none 0 0] 42)).heap.size = w.heap.size + 1 := by simp
  have b0 : ((w.alloc (.cells #[.slice none 0 0] 42)).alloc (.cells #[.slice (some ⟨w.heap.size, 0, none⟩) 1 1] 88)).heap[w.heap.size]? = some (.cells #[.slice none 0 0] 42 (0, 0)) := blk_alloc_old (blk_alloc _ _) _
  have b1 : ((w.alloc (.cells #[.slice none 0 0] 42)).alloc (.cells #[.slice (some ⟨w.heap.size, 0, none⟩) 1 1] 88)).heap[w.heap.size + 1]? = some (.cells #[.slice (some ⟨w.heap.size, 0, none⟩) 1 1] 88 (0, 0)) := by
    rw [← hP]; exact blk_alloc _ _
  have henc : enc [0] 0 = [] := by simp [enc, form_zero]
  refine ⟨⟨w.heap.size + 1, w.heap.size⟩, by simp, ⟨?_, ?_, hU, ?_⟩, ?_, ?_, ?_⟩
  · refine ⟨rfl, by simp, ?_⟩
    intro i x hx t ht
    cases i with
    | zero => simp at hx; subst hx; rw [form_zero] at ht; simp at ht
    | succ i => simp at hx
  · intro x hx; simp at hx; subst hx; exact h0
  · refine ⟨1, #[.slice none 0 0], b1, b0, by simp, by decide, rfl, ?_⟩
    intro i x hx
    cases i with
    | zero =>
      simp at hx; subst hx
      refine ⟨_, rfl, ?_, fun k hk => by simp [Value.ownBlock] at hk⟩
      rw [henc]
      exact RTL.nil _
    | succ i => simp at hx
  · exact r_al (r_al (Below.refl _ _))
  · intro k hk
    unfold RB.M at hk
    simp only at hk
    omega
  · rintro q ⟨i, v, hi, hc, hv⟩
    simp only [List.length_singleton] at hi
    obtain rfl : i = 0 := by omega
    simp only at hc
    rw [cell_of_blk b0] at hc
    simp at hc
    subst hc
    simp [Value.ownBlock] at hv
end Go.Proofs.Ytgchfbfgjanaiaa

namespace Go.Proofs.Ytgchfbfgjanaiaa
open Go.RowKit Sr
set_option maxRecDepth 100000 in
set_option maxHeartbeats 4000000 in
theorem lawRoom_any {count levels least : Nat} (hc : count ≤ 65535) (hl : levels ≤ 255) (hr : least ≤ 255) (w : World) :
    Calls Try.prog 4 #[.int .u16 (count : Int), .int .u8 (levels : Int), .int .u8 (least : Int)] w fun e w' => e = .returned (.bool true) ∧ Below w.heap.size w w' := by
  obtain ⟨C, hC⟩ : ∃ C, C = count % 311 := ⟨_, rfl⟩
  obtain ⟨Lv, hLv⟩ : ∃ C, C = levels % 9 := ⟨_, rfl⟩
  obtain ⟨r, hr2⟩ : ∃ C, C = least % 60 := ⟨_, rfl⟩
  have hC9 : C ≤ 310 := by omega
  have hL9 : Lv ≤ 8 := by omega
  have hr9 : r < 60 := by omega
  obtain ⟨V, hV⟩ : ∃ V, V = val (roomL r Lv C) := ⟨_, rfl⟩
  obtain ⟨U, hU⟩ : ∃ U, U = roomU V := ⟨_, rfl⟩
  have u1 : ∀ x ∈ covR [] 0, x ∈ U := fun x hx => by rw [hU]; exact roomU_base hx
  have u2 : ∀ {n k : Nat}, n ≤ 700 → k ≤ 8 → ((tw n k : Nat) : Int) ∈ U := fun hn hk => by rw [hU]; exact roomU_tw hn hk
  have u3 : V ∈ U ∧ (2 : Int) ^ 63 ∈ U ∧ -(2 : Int) ^ 63 ∈ U := by rw [hU]; simp [roomU]
  have u4 : SumAsk U (roomL r Lv C) := by rw [hU]; exact room_asks hr9 hC9 hL9
  have hnw := rNew_any (w := w) (U := U) (u1 0 (covR_low (P := []) (N := 0) (n := 0) (by omega))) (by rw [hU]; exact roomU_length V)
  have UU := Sealed.mk (And.intro u1 (And.intro @u2 (And.intro u3 (And.intro u4 hV))))
  have g1 : IntKind.i64.wrap (count : Int) = (count : Int) := by rw [IntKind.wrap_i64]; omega
  have g2 : IntKind.i64.wrap (levels : Int) = (levels : Int) := by rw [IntKind.wrap_i64]; omega
  have g3 : IntKind.i64.wrap (least : Int) = (least : Int) := by rw [IntKind.wrap_i64]; omega
  have t1 : (count : Int).tmod 311 = (C : Int) := by rw [Int.tmod_eq_emod_of_nonneg (by omega), hC]; omega
  have t2 : (levels : Int).tmod 9 = (Lv : Int) := by rw [Int.tmod_eq_emod_of_nonneg (by omega), hLv]; omega
  have t3 : (least : Int).tmod 60 = (r : Int) := by rw [Int.tmod_eq_emod_of_nonneg (by omega), hr2]; omega
  have m1 : (count : Int) % 311 = (C : Int) := by rw [hC]; omega
  have m2 : (levels : Int) % 9 = (Lv : Int) := by rw [hLv]; omega
  have m3 : (least : Int) % 60 = (r : Int) := by rw [hr2]; omega
  have FC := Sealed.mk (And.intro g1 (And.intro t1 m1))
  have FL := Sealed.mk (And.intro g2 (And.intro t2 m2))
  have FR := Sealed.mk (And.intro g3 (And.intro t3 m3))
  have HNW := Sealed.mk hnw
  clear g1 g2 g3 t1 t2 t3 m1 m2 m3 u1 u2 u3 u4 hU hV hnw hC hLv hr2
  go_enter Try.func4, Try.ntmps4
  go_upto_block 0 with (go_at_call 16; go_must ((with_reducible refine HNW.out.mono ?_); rintro e w1 ⟨b, rfl, hi, hb, hM, hf⟩; have HN := Sealed.mk (And.intro hi (And.intro hb (And.intro hM hf))); clear hi hb hM hf))
  obtain ⟨W2, hW2⟩ : ∃ W2, W2 = (w1.alloc (.cells #[] 47)).alloc (.cells #[] 49) := ⟨_, rfl⟩
  have hrs : RmS U w W2 b.p b [0] (roomL r Lv 0) (.slice (some ⟨w1.heap.size, 0, none⟩) 0 0) (.slice (some ⟨w1.heap.size + 1, 0, none⟩) 0 0) 0 := by
    have hb2 : Below w1.heap.size w1 W2 := by rw [hW2]; exact below_al (below_al (Below.refl _ _))
    have hx2 : Ext noB w1 W2 := Ext.of_below hb2
    refine ⟨HN.out.1.below hb2, rfl, below_chain HN.out.2.1 hb2, HN.out.2.2.1, ⟨[], ?_, rfl, fun i t s ht _ => by simp at ht⟩, ?_, fun t ht => by simp [roomL] at ht, fun q hq hh => ?_, rfl⟩
    · have := (World.ownsRow_lit (base := w.heap.size) (e := 47) (size := 2) w1 #[] 0 HN.out.2.1.size (by decide) rfl).alloc (.cells #[] 49)
      rw [← hW2] at this
      simpa [trow, roomL, roomZ] using this
    · have := World.ownsRow_lit (base := w.heap.size) (e := 49) (size := 2) (w1.alloc (.cells #[] 47)) #[] 0 (Nat.le_trans HN.out.2.1.size (by simp)) (by decide) rfl
      rw [← hW2] at this
      simpa [tcells, roomL, encL] using this
    · exact HN.out.2.2.2 q (forms_same hx2 (fun h => h) HN.out.1 hh)
  have R0 := Sealed.mk hrs
  rw [← hW2]
  clear hrs hW2 HNW HN
  obtain ⟨bp, hbp⟩ : ∃ bp, bp = b.p := ⟨_, rfl⟩
  rw [← hbp] at R0 ⊢
  clear hbp
  go_wp2_with fail
  go_loopg [8, 9, 10] C (fun jj lv dv iv W => ∃ (i : Nat) (la da : Option Addr) (lc dc : Nat) (b1 : RB) (vs1 : List Int), jj = C - i ∧ i ≤ C ∧ iv = .int .i64 (i : Int) ∧ lv = .slice la i lc ∧ dv = .slice da i dc ∧ Sealed (RmS U w W bp b1 vs1 (roomL r Lv i) (.slice la i lc) (.slice da i dc) i))
  case atStart => exact ⟨0, _, _, 0, 0, b, [0], rfl, Nat.zero_le _, rfl, rfl, rfl, R0⟩
  case round =>
    clear R0
    obtain ⟨i, la, da, lc, dc, b1, vs1, rfl, hi, rfl, rfl, rfl, HR⟩ := hrel
    by_cases hiC : i < C
    · obtain ⟨nn, hnn⟩ : ∃ nn, nn = 2 * i + r := ⟨_, rfl⟩
      have hn7 : nn ≤ 700 := by omega
      have hnI : 2 * (i : Int) + (r : Int) = (nn : Int) := by omega
      have hiC' : (i : Int) < (C : Int) := by omega
      have hof : ∀ W, Calls Try.prog 21 #[.int .i64 (2 * (i : Int) + (r : Int))] W (One W (nn : Int)) := fun W => by rw [hnI]; exact Of_one (n := (nn : Int)) (by unfold Is64; omega) W
      have OFN := Sealed.mk hof
      have hrof : ∀ W b vs, RInv W b vs U → Calls Try.prog 24 #[.pointer (some ⟨b.p, 0, none⟩), .int .i64 (2 * (i : Int) + (r : Int))] W (AtOut U W b vs (nn : Int)) := fun W b vs h => by rw [hnI]; exact rOf_any h (by unfold Is64; omega) UU.out.1 (UU.out.2.1 (k := 0) hn7 (by omega))
      have ROFN := Sealed.mk hrof
      clear hrof
      have HN := Sealed.mk hnn
      have hnB : Sealed (-1000000000000 ≤ (nn : Int) ∧ (nn : Int) ≤ 1000000000000 ∧ -1000000000000 ≤ 2 * (i : Int) ∧ 2 * (i : Int) ≤ 1000000000000) := ⟨by omega⟩
      have HI64 : Sealed (Is64 (nn : Int)) := ⟨by unfold Is64; omega⟩
      clear hof hnn
      obtain ⟨g1, t1, m1⟩ := FC.out
      obtain ⟨g3, t3, m3⟩ := FR.out
      have w2 : wrap64 (2 * (i : Int)) = 2 * (i : Int) := w64_in hnB.out.2.2.1 hnB.out.2.2.2
      have w3 : wrap64 (2 * (i : Int) + (r : Int)) = (nn : Int) := by rw [hnI]; exact w64_in hnB.out.1 hnB.out.2.1
      clear hnI
      go_upto_region 8 with fail
      clear w2 w3 g1 t1 m1 g3 t3 m3
      go_upto_region 9 with (first
        | (go_at_call 21; go_must ((with_reducible refine (OFN.out _).mono ?_); rintro e w3 ⟨p3, rfl, hb, hn⟩; replace HR := Sealed.mk (HR.out.adv hb); have HP := Sealed.mk hn; clear hb hn))
        | (go_at_call 24; go_must (have hq := ROFN.out _ _ _ HR.out.inv; rw [HR.out.p] at hq; (with_reducible refine hq.mono ?_); clear hq; rintro e w4 ⟨vs4, b4, j4, rfl, hj4, hs4⟩; replace HP := Sealed.mk (HP.out.apart HR.out.inv.apartM hs4.ext); replace HR := Sealed.mk (HR.out.step hs4); have HJ := Sealed.mk hj4; clear hj4 hs4)))
      obtain ⟨W5, hW5⟩ : ∃ W5, W5 = w4.alloc (.cells #[.pointer p3] 30) := ⟨_, rfl⟩
      obtain ⟨kx, hkx⟩ : ∃ k, k = w4.heap.size := ⟨_, rfl⟩
      have hb5 : Below w4.heap.size w4 W5 := by rw [hW5]; exact below_new _ _
      have hbk : W5.heap[kx]? = some (.cells #[.pointer p3] 30 (0, 0)) := by rw [hW5, hkx]; exact blk_alloc _ _
      have hkw : w.heap.size ≤ kx := by rw [hkx]; exact HR.out.below.size
      have HS : Sealed (RmS U w W5 bp b4 vs4 (roomL r Lv i) (.slice la i lc) (.slice da i dc) i ∧ W5.heap[kx]? = some (.cells #[.pointer p3] 30 (0, 0)) ∧ NumIs W5 (.agg #[.pointer p3]) ((tw nn 0 : Nat) : Int) ∧ vs4[j4]? = some ((tw nn 0 : Nat) : Int)) := ⟨HR.out.adv hb5, hbk, HP.out.below hb5, HJ.out⟩
      rw [← hW5, ← hkx]
      have HKW := Sealed.mk hkw
      clear hW5 hkx hb5 hbk hkw HR HP HJ ROFN OFN
      obtain ⟨g2, t2, m2⟩ := FL.out
      go_wp2_with fail
      go_loopg [13, 14] Lv (fun jj av kv W => ∃ (k j : Nat) (px : Option Addr) (b2 : RB) (vs2 : List Int), jj = Lv - k ∧ k ≤ Lv ∧ kv = .int .i64 (k : Int) ∧ av = .int .i64 (j : Int) ∧ Sealed (RmS U w W bp b2 vs2 (roomL r Lv i) (.slice la i lc) (.slice da i dc) i ∧ W.heap[kx]? = some (.cells #[.pointer px] 30 (0, 0)) ∧ NumIs W (.agg #[.pointer px]) ((tw nn k : Nat) : Int) ∧ vs2[j]? = some ((tw nn k : Nat) : Int)))
      case atStart => exact ⟨0, j4, p3, b4, vs4, rfl, Nat.zero_le _, rfl, rfl, HS⟩
      case round =>
        clear HS
        obtain ⟨k, j, px, b2, vs2, rfl, hk, rfl, rfl, HS⟩ := hrel
        by_cases hkL : k < Lv
        · obtain ⟨tk, htk⟩ : ∃ z : Int, z = ((tw nn k : Nat) : Int) := ⟨_, rfl⟩
          obtain ⟨tn, htn⟩ : ∃ z : Int, z = ((tw nn (k + 1) : Nat) : Int) := ⟨_, rfl⟩
          have GT : Sealed (shiftR 1 tk = (tn, 0)) := ⟨by rw [htk, htn]; exact tw_shift hn7 (by clear g2 t2 m2; omega)⟩
          have hkL' : (k : Int) < (Lv : Int) := by clear g2 t2 m2; omega
          have HT := Sealed.mk (And.intro htk htn)
          have S : Sealed (St w wr [] [(kx, px, tk)]) := ⟨(⟨HS.out.1.below, fun i p x h => by simp at h, fun i k p x h => by simp at h, by simp⟩ : St w wr [] []).cel ⟨HS.out.2.1, by rw [htk]; exact HS.out.2.2.1⟩ HKW.out (by simp)⟩
          clear htk htn
          have OF1 := Sealed.mk (fun W => Of_one (n := 1) (by unfold Is64; decide) W)
          go_upto_region 12 with fail
          clear g2 t2 m2
          go_cut [15, 16] from 48 to 53 (fun vn ve wx => ∃ kn pn, vn = .pointer (some ⟨kn, 0, none⟩) ∧ ve = .int .i64 0 ∧ St w wx [] [(kn, pn, tn), (kx, px, tk)] ∧ Below wr.heap.size wr wx)
          case first =>
            have T := Sealed.mk (St.start wr)
            go_region_held3 (fun W => W.cell? ⟨kx, 0, none⟩ = some (.pointer px))
              (first
                | exact S.out.cell 0 rfl
                | exact S.out.dr.cell 0 rfl
                | exact S.out.cell 1 rfl
                | exact (S.out.new (NumIs.zero _)).dr.cell 1 rfl
                | exact (S.out.new (NumIs.zero _)).cell 1 rfl
                | exact (S.out.put 0 rfl (S.out.num 0 rfl)).cell 1 rfl
                | exact (S.out.new (S.out.num 0 rfl)).cell 1 rfl
                | fail)
              (first
                | (go_at_call 21; go_must ((with_reducible refine (OF1.out _).mono ?_); rintro e w22 ⟨p22, rfl, hb, hn⟩; first | (replace S := Sealed.mk (S.out.dr.res hb hn); replace T := Sealed.mk (T.out.dr.res hb hn)) | (replace S := Sealed.mk ((S.out.new (NumIs.zero _)).dr.res hb hn); replace T := Sealed.mk ((T.out.new (NumIs.zero _)).dr.res hb hn)); clear hb hn))
                | (go_at_call 25; go_must (first
                    | ((with_reducible refine (Shift_two GT.out (S.out.num 0 rfl) (S.out.cnum 0 rfl)).mono ?_); rintro e w22' ⟨p22', rfl, hb, hn⟩; replace S := Sealed.mk (S.out.res hb hn); replace T := Sealed.mk (T.out.res hb hn); clear hb hn)
                    | ((with_reducible refine (Shift_two GT.out (S.out.num 0 rfl) (S.out.cnum 1 rfl)).mono ?_); rintro e w22' ⟨p22', rfl, hb, hn⟩; replace S := Sealed.mk (S.out.res hb hn); replace T := Sealed.mk (T.out.res hb hn); have zc := S.out.cell 0 rfl; have zf := S.out.frozen 0 rfl; clear hb hn)
                    | ((with_reducible refine (Shift_two GT.out ((S.out.new (NumIs.zero _)).num 0 rfl) ((S.out.new (NumIs.zero _)).cnum 1 rfl)).mono ?_); rintro e w22' ⟨p22', rfl, hb, hn⟩; replace S := Sealed.mk ((S.out.new (NumIs.zero _)).res hb hn); replace T := Sealed.mk ((T.out.new (NumIs.zero _)).res hb hn); have zc := S.out.cell 0 rfl; have zf := S.out.frozen 0 rfl; clear hb hn))))
            all_goals
              go_wp2_with fail
              go_meet
              case rel =>
                first
                  | exact ⟨_, _, rfl, rfl, (S.out.new (S.out.num 0 rfl)).clr, (T.out.new (T.out.num 0 rfl)).below⟩
                  | exact ⟨_, _, rfl, rfl, (S.out.put 0 rfl (S.out.num 0 rfl)).clr, (T.out.put 0 rfl (T.out.num 0 rfl)).below⟩
          case rest =>
            obtain ⟨kn, pn, rfl, rfl, hS, hbn⟩ := hcut
            obtain ⟨W6, hW6⟩ : ∃ W6, W6 = wc := ⟨_, rfl⟩
            rw [← hW6] at hS hbn ⊢
            clear hW6
            have ld0 := hS.cell 0 rfl
            have ld1 := hS.cell 1 rfl
            have ld2 := hS.frozen 1 rfl
            have hR6 := HS.out.1.adv hbn
            have hx7 : Ext (fun q => q = kx) W6 (W6.setCell ⟨kx, 0, none⟩ (.pointer pn)) := (Ext.refl (fun q => q = kx) W6).setCell (p := ⟨kx, 0, none⟩) (.inl rfl) _
            have hz6 := hS.blk 1 rfl
            have hR7 := hR6.far hx7 (fun q hq => by rw [hq]; exact HKW.out) (fun q hq => by rw [hq]; exact ⟨_, _, hz6⟩) (t := 30) (by decide) (by decide)
            have hn7b : NumIs (W6.setCell ⟨kx, 0, none⟩ (.pointer pn)) (.agg #[.pointer pn]) tn := (hS.cnum 0 rfl).other hz6 hx7
            have hz7 : (W6.setCell ⟨kx, 0, none⟩ (.pointer pn)).heap[kx]? = some (.cells #[.pointer pn] 30 (0, 0)) := by rw [blk_setCell hz6]; rfl
            obtain ⟨W7, hW7⟩ : ∃ W7, W7 = W6.setCell ⟨kx, 0, none⟩ (.pointer pn) := ⟨_, rfl⟩
            rw [← hW7] at hR7 hn7b hz7
            have R7 := Sealed.mk hR7
            have N7 := Sealed.mk (And.intro hn7b hz7)
            have hpw := rPower_any (e := tw nn k) hR7.inv (by have := HS.out.2.2.2; exact this) (by rw [← tw_succ]; exact UU.out.2.1 hn7 (by omega))
            rw [hR7.p, ← tw_succ, ← HT.out.2] at hpw
            have PW := Sealed.mk hpw
            clear hS hbn hR6 hx7 hz6 hR7 hn7b hz7 hpw S
            go_upto_region 16 with fail
            rw [← hW7]
            clear hW7 ld0 ld1 ld2
            go_wp2_with (go_at_call 26; go_must ((with_reducible refine PW.out.mono ?_); rintro e w8 ⟨vs8, b8, j8, rfl, hj8, hs8⟩; have P8 := Sealed.mk (And.intro hj8 hs8); clear hj8 hs8))
            go_roundg (Lv - (k + 1))
            case measure => omega
            case rel =>
              refine ⟨k + 1, j8, pn, b8, vs8, rfl, by omega, by push_cast; rfl, rfl, ⟨R7.out.step P8.out.2, ?_, ?_, ?_⟩⟩
              · exact P8.out.2.ext.get N7.out.2 (R7.out.inv.notM ⟨_, _, N7.out.2⟩ (by decide) (by decide))
              · rw [← HT.out.2]; exact N7.out.1.apart R7.out.inv.apartM P8.out.2.ext
              · rw [← HT.out.2]; exact P8.out.1
        · obtain rfl : k = Lv := by clear g2 t2 m2; omega
          obtain ⟨tt, htt⟩ : ∃ z : Nat, z = tw nn k := ⟨_, rfl⟩
          rw [← htt] at HS
          have hrt : roomT r k i = (i % 3 == 1, tt) := by unfold roomT; rw [← HN.out, htt]
          obtain ⟨ts, hts⟩ := HS.out.1.terms
          have hown := hts.own
          rw [roomZ_length, ← HS.out.1.len] at hown
          have hsz := HS.out.1.below.size
          obtain ⟨mk, hmk⟩ : ∃ mk : Bool, mk = (i % 3 == 1) := ⟨_, rfl⟩
          have f4 : ((i : Int) % 3 == 1) = mk := by
            rw [hmk, Bool.eq_iff_iff]
            simp
            clear g2 t2 m2
            omega
          have f5 : ((i : Int).tmod 3 == 1) = mk := by rw [Int.tmod_eq_emod_of_nonneg (by clear g2 t2 m2; omega)]; exact f4
          have ld0 : wr.cell? ⟨kx, 0, none⟩ = some (.pointer px) := (cell_of_blk HS.out.2.1 0).trans rfl
          have HX := Sealed.mk (And.intro hts (And.intro hown (And.intro hsz (And.intro hrt hmk))))
          clear hts hown hsz hrt hmk htt
          have hi9 : i + 1 ≤ 1000 := by clear g2 t2 m2; omega
          go_upto_region 17 with fail
          clear g2 t2 m2
          go_wp2_with (at_builtin; go_must (first
            | (refine ap_litp (m := 1) el_Term (.tmp 60) (.tmp 66) rfl rfl rfl HX.out.2.1 rfl rfl rfl (by decide) (by simp [Value.oneCell']) (by omega) HX.out.2.2.1 ?_; intro g7 c7 w7 ho7 hg7 hn7; have hd7 := HS.out.1.dueT hg7; have hs7 : w.heap.size ≤ w7.heap.size := Nat.le_trans HX.out.2.2.1 hg7.size; have D := Sealed.mk (And.intro ho7 (And.intro hg7 (And.intro hd7 hs7))); clear ho7 hg7 hn7 hd7 hs7)
            | (refine ap_litp (m := 1) el_rterm (.tmp 68) (.tmp 74) rfl rfl rfl D.out.2.2.1 rfl rfl rfl (by decide) (by simp [Value.oneCell']) (by omega) D.out.2.2.2 ?_; intro g9 c9 w9 ho9 hg9 hn9; have E := Sealed.mk (And.intro ho9 (And.intro hg9 hn9)); clear ho9 hg9 hn9)))
          go_roundg (C - (i + 1))
          case measure => omega
          case rel =>
            refine ⟨i + 1, _, _, c7, c9, b2, vs2, rfl, by omega, by push_cast; rfl, rfl, rfl, ⟨?_⟩⟩
            rw [roomL_succ, HX.out.2.2.2.1, ← HX.out.2.2.2.2]
            exact HS.out.1.pushT HX.out.1 (Below.refl _ _) HS.out.2.2.1 D.out.2.1 D.out.1 HS.out.2.2.2 (Below.refl _ _) E.out.2.1 E.out.2.2 E.out.1
    · obtain rfl : i = C := by omega
      obtain ⟨ts, hts⟩ := HR.out.terms
      have hta := hts.at_ (by rw [roomZ_length, ← HR.out.len]; omega)
      have hsm := roomZ_sum (l := roomL r Lv i) (by rw [← HR.out.len]; omega)
      rw [← UU.out.2.2.2.2] at hsm
      obtain ⟨zz, ez, hgz⟩ : ∃ zz ez, gv V = (zz, ez) := ⟨_, _, rfl⟩
      rw [hgz] at hsm
      have hdl : (encL vs1 (roomL r Lv i)).length = i := by rw [encL_length]; exact HR.out.len.symm
      have hrtl : RTL wr (.slice da i dc) (encL vs1 (roomL r Lv i)) := by
        have h1 := HR.out.due
        have h2 := RTL.of_own (B := w.heap.size) (w := wr) (v := .slice da i dc) (l := encL vs1 (roomL r Lv i)) (by rw [hdl]; exact h1) (by rw [hdl]; omega)
        exact h2
      have HF := Sealed.mk (And.intro hsm (And.intro hta (And.intro hrtl hgz)))
      clear hts hta hsm hrtl hdl hgz
      obtain ⟨g1, t1, m1⟩ := FC.out
      go_upto_region 19 with fail
      clear g1 t1 m1
      go_upto_region 20 with (go_at_call 27; go_must ((with_reducible refine (Sum_two HF.out.1 HF.out.2.1).mono ?_); rintro e w3 ⟨p3, rfl, hb, hn⟩; have H3 := Sealed.mk (And.intro hb hn); clear hb hn))
      have S0 := (((St.start wr).res H3.out.1 H3.out.2).new H3.out.2).clr
      obtain ⟨W4, hW4⟩ : ∃ W4, W4 = w3.alloc (.cells #[.pointer p3] 30) := ⟨_, rfl⟩
      obtain ⟨kx, hkx⟩ : ∃ k, k = w3.heap.size := ⟨_, rfl⟩
      rw [← hW4, ← hkx] at S0
      rw [← hW4, ← hkx]
      clear hW4 hkx H3
      have hR4 := HR.out.adv S0.below
      have hbl4 := hR4.below
      have hst4 : TS U W4 W4 b1 b1 vs1 vs1 kx p3 zz := ⟨RStep.refl hR4.inv, S0.blk 0 rfl, S0.cnum 0 rfl⟩
      have hsu := rSum_any hR4.inv (HF.out.2.2.1.below S0.below) hR4.cov UU.out.2.2.2.1 (by rw [← UU.out.2.2.2.2]; exact UU.out.2.2.1.1)
      rw [hR4.p, ← UU.out.2.2.2.2] at hsu
      have SU := Sealed.mk hsu
      have T := Sealed.mk hst4
      have B4 := Sealed.mk (And.intro hR4.below (And.intro hR4.mge hR4.p))
      clear hsu hst4 hR4 hbl4 S0 HR
      go_upto_region 21 with (go_at_call 28; go_must ((with_reducible refine SU.out.mono ?_); rintro e w5 ⟨vs5, b5, j5, rfl, hj5, hs5⟩; replace T := Sealed.mk (T.out.step hs5); have J := Sealed.mk hj5; clear hj5 hs5))
      clear SU
      have hend : ∀ {W : World} {b9 : RB} {vs9 : List Int} {k9 : Nat} {q9 : Option Addr} {z9 : Int}, TS U W4 W b1 b9 vs1 vs9 k9 q9 z9 → Below w.heap.size w W := fun h9 =>
        ⟨h9.st.ext.os.trans B4.out.1.os, h9.st.ext.tape.trans B4.out.1.tape, h9.st.ext.output.trans B4.out.1.output, Nat.le_trans B4.out.1.size h9.st.ext.size, fun q hq => (h9.st.ext.block q (Nat.lt_of_lt_of_le hq B4.out.1.size) fun hm => by have := B4.out.2.1 q hm; omega).trans (B4.out.1.block q hq)⟩
      have HEND := Sealed.mk @hend
      clear hend
      by_cases hal : Allowed V
      · have hgv := HF.out.2.2.2
        rw [gv_ok hal] at hgv
        obtain ⟨rfl, rfl⟩ := Prod.mk.inj hgv
        clear hgv HF
        have HA := Sealed.mk hal
        have c5 := T.out.cell
        clear hal
        go_wp2_with (first
          | (go_at_call 29; go_must (have hq := rAllowed_any T.out.st.inv J.out; rw [T.out.st.p, B4.out.2.2] at hq; (with_reducible refine hq.mono ?_); clear hq; rintro e w6 ⟨⟨d6, rfl, hd6⟩, hb6⟩; obtain rfl : d6 = true := hd6.2 HA.out; replace T := Sealed.mk (T.out.adv hb6); clear hd6 hb6; have c6 := T.out.cell))
          | (go_at_call 22; go_must (have hq := lawTells_any UU.out.1 UU.out.2.2.1.2.1 UU.out.2.2.1.2.2 T.out.num T.out.st.inv J.out; rw [T.out.st.p, B4.out.2.2] at hq; (with_reducible refine hq.mono ?_); clear hq; rintro e w7 ⟨rfl, vs7, b7, hs7⟩; replace T := Sealed.mk (T.out.step hs7); clear hs7))
          | (go_at_call 15; go_must ((with_reducible refine (awake1_any _).mono ?_); rintro e w999 ⟨rfl, hb⟩; replace T := Sealed.mk (T.out.adv hb); clear hb)))
        go_ret
        exact ⟨rfl, HEND.out T.out⟩
      · have hgv := HF.out.2.2.2
        rw [gv_no hal] at hgv
        obtain ⟨rfl, rfl⟩ := Prod.mk.inj hgv
        clear hgv HF
        have HA := Sealed.mk hal
        have OF0 := Sealed.mk (fun W => Of_one (n := 0) (by unfold Is64; decide) W)
        clear hal
        go_upto_region 22 with (go_at_call 29; go_must (have hq := rAllowed_any T.out.st.inv J.out; rw [T.out.st.p, B4.out.2.2] at hq; (with_reducible refine hq.mono ?_); clear hq; rintro e w6 ⟨⟨d6, rfl, hd6⟩, hb6⟩; obtain rfl : d6 = false := (by cases d6; rfl; exact absurd (hd6.1 rfl) HA.out); replace T := Sealed.mk (T.out.adv hb6); clear hd6 hb6))
        replace T := Sealed.mk (T.out.adv (below_drew _))
        go_region_held3 (fun W => W.cell? ⟨kx, 0, none⟩ = some (.pointer p3))
          (exact T.out.cell)
          (first
            | (go_at_call 21; go_must ((with_reducible refine (OF0.out _).mono ?_); rintro e w7 ⟨p7, rfl, hb, hn⟩; replace T := Sealed.mk (T.out.adv hb); have N0 := Sealed.mk hn; clear hb hn))
            | (go_at_call 20; go_must (have hq := lawSame_any T.out.num N0.out; rw [decide_eq_true (rfl : (0 : Int) = 0)] at hq; (with_reducible refine hq.mono ?_); clear hq; rintro e w8 ⟨rfl, hb⟩; replace T := Sealed.mk (T.out.adv hb); clear hb))
            | (go_at_call 15; go_must ((with_reducible refine (awake1_any _).mono ?_); rintro e w999 ⟨rfl, hb⟩; replace T := Sealed.mk (T.out.adv hb); clear hb)))
        all_goals
          go_wp2_with fail
          go_ret
          exact ⟨rfl, HEND.out T.out⟩
end Go.Proofs.Ytgchfbfgjanaiaa

namespace Go.Proofs.Ytgchfbfgjanaiaa.RowK
open Go.ChangeShapes Go.WideShapes Go.ChangeAt Go.RowKit Sr
set_option linter.unusedVariables false
theorem laid : laidOutB Try.prog = true := by kernel_rfl
theorem wf64 {n : Int} (h : (Lit.int .i64 n).wf = true) : Is64 n := by
  have := h
  simp [Lit.wf, go_sem] at this
  exact this
theorem mapM_all {α β : Type} {f : α → Option β} : ∀ {l : List α} {xs : List β}, l.mapM f = some xs → ∀ a ∈ l, ∃ y, f a = some y
  | [], _, _, a, ha => by simp at ha
  | b :: l, xs, h, a, ha => by
    rw [List.mapM_cons] at h
    cases h1 : f b with
    | none => simp [h1] at h
    | some y =>
      cases h2 : l.mapM f with
      | none => simp [h1, h2] at h
      | some ys =>
        rcases List.mem_cons.1 ha with rfl | ha
        · exact ⟨y, h1⟩
        · exact mapM_all h2 a ha
section
variable {H : Type} {enc : TypeId × Value → H} {W : World} {base : Nat} {sp : Nat → Bool} {held : Bool}
theorem add_off (b o i : Nat) : (⟨b, o, none⟩ : Addr).add i = ⟨b, o + i, none⟩ := by unfold Addr.add; split <;> simp_all
set_option maxRecDepth 100000 in
theorem open_int {r : Reach} {b : Nat} {t : TypeId} (ht : Try.prog.underlying t = some (.int .i64)) {v : Value} {d : DataW H} {p : List MemPlace} (hv : Value.okWide Try.prog W r b t v) (h : DataW.Trod enc Try.prog W 0 (fun _ => true) true t v d p) :
    ∃ n : Int, v = .int .i64 n ∧ Is64 n := by
  obtain ⟨n, rfl⟩ := okWide_int ht hv
  obtain ⟨fuel, h⟩ := h
  obtain ⟨n', e, -, hw⟩ := DataW.trod_int ht h
  obtain rfl : n = n' := by simpa [Value.cells] using e
  exact ⟨n, rfl, wf64 hw⟩
theorem again {W' : World} {t : TypeId} (hr : Try.prog.readableRec t = true) (hrow : t < Try.prog.types.size) {v : Value} {d : DataW H} {ps : List MemPlace} {sp' : Nat → Bool} (h : DataW.Trod enc Try.prog W 0 (fun _ => true) true t v d ps)
    (hlt : ∀ p ∈ ps, p.block < W.heap.size) (hb : Below W.heap.size W W') (hs : ∀ p ∈ ps, sp' p.block = true) : DataW.Trod enc Try.prog W' 0 sp' true t v d ps :=
  Go.WideElems.Trod_stays laid hr hrow h (fun p hp => hb.same (hlt p hp)) hs
theorem wfu8 {n : Int} (h : (Lit.int .u8 n).wf = true) : 0 ≤ n ∧ n ≤ 255 := by
  have := h
  simp [Lit.wf, go_sem] at this
  exact this
set_option maxRecDepth 100000 in
theorem open_u8 {r : Reach} {b : Nat} {v : Value} {d : DataW H} {p : List MemPlace} (hv : Value.okWide Try.prog W r b 5 v) (h : DataW.Trod enc Try.prog W 0 (fun _ => true) true 5 v d p) :
    ∃ n : Nat, v = .int .u8 (n : Int) ∧ n ≤ 255 := by
  obtain ⟨n, rfl⟩ := okWide_int Try.underlying5 hv
  obtain ⟨fuel, h⟩ := h
  obtain ⟨n', e, -, hw⟩ := DataW.trod_int Try.underlying5 h
  obtain rfl : n = n' := by simpa [Value.cells] using e
  obtain ⟨h1, h2⟩ := wfu8 hw
  exact ⟨n.toNat, by rw [Int.toNat_of_nonneg h1], by omega⟩
theorem wfu16 {n : Int} (h : (Lit.int .u16 n).wf = true) : 0 ≤ n ∧ n ≤ 65535 := by
  have := h
  simp [Lit.wf, go_sem] at this
  exact this
set_option maxRecDepth 100000 in
theorem open_u16 {r : Reach} {b : Nat} {v : Value} {d : DataW H} {p : List MemPlace} (hv : Value.okWide Try.prog W r b 40 v) (h : DataW.Trod enc Try.prog W 0 (fun _ => true) true 40 v d p) :
    ∃ n : Nat, v = .int .u16 (n : Int) ∧ n ≤ 65535 := by
  obtain ⟨n, rfl⟩ := okWide_int Try.underlying40 hv
  obtain ⟨fuel, h⟩ := h
  obtain ⟨n', e, -, hw⟩ := DataW.trod_int Try.underlying40 h
  obtain rfl : n = n' := by simpa [Value.cells] using e
  obtain ⟨h1, h2⟩ := wfu16 hw
  exact ⟨n.toNat, by rw [Int.toNat_of_nonneg h1], by omega⟩
end
end Go.Proofs.Ytgchfbfgjanaiaa.RowK
