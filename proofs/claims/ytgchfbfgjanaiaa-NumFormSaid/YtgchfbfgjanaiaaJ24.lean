/-
  num.Of
  (num.N).Add
  (num.N).Neg
  (num.N).Sub
  a universe for all that sums ask for
  (num.N).Add and Sub: whatever the numbers
  num.world.shifted: what its loop holds
-/
import Derived.Test.YtgchfbfgjanaiaaJ23
import Derived.Test.YtgchfbfgjanaiaaJ20
import Derived.Test.YtgchfbfgjanaiaaJ04
import Derived.Test.YtgchfbfgjanaiaaJ18
import Derived.StillTailTactics
import Derived.Deep.DeepCutAuto
import Derived.Test.YtgchfbfgjanaiaaJ07
import Derived.Deep.RegionHeld3
set_option linter.unusedSimpArgs false
set_option linter.unusedVariables false
namespace Go.Proofs.Ytgchfbfgjanaiaa
open Go.RowKit Sr
theorem below_st' {n : Nat} {w W : World} (h : Below n w W) (o : Obj) (hn : n ≤ w.heap.size := by exact Nat.le_refl _) : Below n w (W.alloc o) := h.alloc (Nat.le_trans hn h.size) o
theorem below_mono' {n k : Nat} {w W : World} (h : Below k w W) (hn : n ≤ k) : Below n w W := ⟨h.os, h.tape, h.output, h.size, fun q hq => h.block q (by omega)⟩
theorem NumIs.agg {w : World} {u : Value} {x : Int} (h : NumIs w u x) : ∃ p, u = .agg #[.pointer p] := by
  rcases h.2 with ⟨_, h⟩ | ⟨_, k, h, _⟩
  · exact ⟨none, h⟩
  · exact ⟨_, h⟩
set_option maxRecDepth 100000 in
set_option maxHeartbeats 4000000 in
theorem of_num {w : World} {n : Int} (h1 : -9223372036854775808 ≤ n) (h2 : n ≤ 9223372036854775807) :
    Calls Try.prog 21 #[.int .i64 n] w fun e w' => ∃ u, e = .returned u ∧ NumIs w' u n ∧ Below w.heap.size w w' := by
  have hnw := newWorld_any (w := w.alloc (.cells #[.pointer none] 30)) (U := few) (few_mem 0 (by omega)) few_length
  have HNW := Sealed.mk hnw; clear hnw
  have hN : n.natAbs ≤ 2 ^ 63 := by omega
  have hof := fun w b vs => of_any (U := few) few_mem _ (Nat.lt_succ_self n.natAbs) hN (decide (n < 0)) (w := w) (b := b) (vs := vs)
  have hs : sgn (decide (n < 0)) n.natAbs = n := by
    unfold sgn
    by_cases h : n < 0
    · simp [h]; omega
    · simp [h]; omega
  rw [hs] at hof
  have HOF := Sealed.mk hof; clear hof
  have hAll := allowed_small hN
  have HALL := Sealed.mk hAll; clear hAll
  obtain ⟨w0, hw0⟩ : ∃ w0, w0 = w.alloc (.cells #[.pointer none] 30) := ⟨_, rfl⟩
  have hfin : ∀ {w1 w4 w5 : World} {b1 b4 : WB} {vs4 : List Int} {e5 : Ending}, Below w0.heap.size w0 w1 → (∀ k, b1.M k → w0.heap.size ≤ k) → WStep few w1 w4 b1 b4 [0] vs4 → GiveOut few w4 b4 vs4 n e5 w5 →
      ∃ p, e5 = .returned (.tuple #[.agg #[.pointer p], .int .i64 0]) ∧ NumIs w5 (.agg #[.pointer p]) n ∧ Below w0.heap.size w0 w5 := by
    intro w1 w4 w5 b1 b4 vs4 e5 hb1 hM hst hg
    obtain ⟨g1, g2, u, g3⟩ := hg
    rcases g3 with ⟨_, rfl, hn⟩ | ⟨hna, _⟩
    · obtain ⟨p, rfl⟩ := hn.agg
      have e1 : Ext (fun k => w0.heap.size ≤ k) w0 w1 := ⟨hb1.os, hb1.tape, hb1.output, hb1.size, fun k hk hn => hb1.block k (Nat.lt_of_not_le hn)⟩
      have e2 := e1.trans hst.ext fun k hk => .inl (hM k hk)
      have e3 := e2.trans g2 fun k hk => by
        have := hst.news k (by rw [hk]; exact .inr (.inr (.inr (.inr rfl))))
        rcases this with h | h
        · exact .inl (hM k h)
        · exact .inl (by have := e1.size; show w0.heap.size ≤ k; omega)
      exact ⟨p, rfl, hn, e3.os, e3.tape, e3.output, e3.size, fun k hk => e3.block k hk (by show ¬ (w0.heap.size ≤ k); omega)⟩
    · exact absurd HALL.out hna
  rw [hw0] at hfin
  have HF := Sealed.mk @hfin; clear hfin
  have hend : ∀ {w5 : World} {p5 : Option Addr}, NumIs w5 (.agg #[.pointer p5]) n → Below (w.alloc (.cells #[.pointer none] 30)).heap.size (w.alloc (.cells #[.pointer none] 30)) w5 → w5.heap[w.heap.size]? = some (.cells #[.pointer none] 30 (0, 0)) →
      NumIs ((w5.alloc (.cells #[.pointer p5] 30)).setCell ⟨w.heap.size, 0, none⟩ (.pointer p5)) (.agg #[.pointer p5]) n ∧ Below w.heap.size w ((w5.alloc (.cells #[.pointer p5] 30)).setCell ⟨w.heap.size, 0, none⟩ (.pointer p5)) ∧
      ((w5.alloc (.cells #[.pointer p5] 30)).setCell ⟨w.heap.size, 0, none⟩ (.pointer p5)).cell? ⟨w.heap.size, 0, none⟩ = some (.pointer p5) := by
    intro w5 p5 h1 h2 h3
    have h4 := blk_alloc_old h3 (.cells #[.pointer p5] 30)
    refine ⟨(h1.below (below_st' (Below.refl _ _) _)).other h4 ((Ext.refl (fun k => k = w.heap.size) _).setCell (p := ⟨w.heap.size, 0, none⟩) (.inl rfl) _), ?_, ?_⟩
    · have b0 : Below w.heap.size w (w.alloc (.cells #[.pointer none] 30))   := below_st' (Below.refl _ _) _
      have b1 := b0.trans (below_mono' h2 b0.size)
      exact (below_st' b1 _).setCell (Nat.le_refl _) _
    · rw [cell_of_blk (blk_setCell h4 0 _)]; rfl
  have HEND := Sealed.mk @hend; clear hend
  by_cases hneg : n < 0
  · have hd : decide (n < 0) = true := by simp [hneg]
    rw [hd] at HOF
    have hw1 : IntKind.u64.wrap n = n + 18446744073709551616 := by rw [IntKind.wrap_u64]; omega
    have hw2 : IntKind.u64.wrap (-(n + 18446744073709551616)) = (n.natAbs : Int) := by rw [IntKind.wrap_u64]; omega
    have HH := Sealed.mk (And.intro h1 (And.intro h2 hN)); clear h1 h2 hN hs hd
    go_enter Try.func21, Try.ntmps21
    clear hw0
    go_wp2_with (first
      | (go_at_call 52; go_must (refine HNW.out.mono ?_; rintro e w1 ⟨b1, rfl, hi1, hb1, hm1⟩))
      | (go_at_call 58; go_must (refine (HOF.out _ _ _ hi1).mono ?_; rintro e w4 ⟨vs4, b4, a4, c4, rfl, hown4, hl4, hc4, hst4, hfs4, hm4⟩; have hg4 := give_any hst4.inv (TL.of_own hown4 hl4) hc4; rw [hst4.p] at hg4; have HG4 := Sealed.mk hg4; clear hg4))
      | (go_at_call 56; go_must (refine HG4.out.mono ?_; intro e w5 hg5; obtain ⟨p5, rfl, hnum5, hb5⟩ := HF.out hb1 hm1 hst4 hg5; have x5 := (hb5.block w.heap.size (by simp)).trans (blk_alloc w _); have c5 : ∀ o, (w5.alloc o).cell? ⟨w.heap.size, 0, none⟩ = some (.pointer none) := fun o => (cell_of_blk (blk_alloc_old x5 o) 0).trans rfl; have f5 : ∀ o, (w5.alloc o).frozen? ⟨w.heap.size, 0, none⟩ = false := fun o => frozen_of_blk (blk_alloc_old x5 o) 0; have H5 := Sealed.mk (And.intro hnum5 (And.intro hb5 x5)); clear hnum5 hb5 x5 hg5 hi1 hb1 hm1 hown4 hl4 hc4 hst4 hfs4 hm4)))
    have z := (HEND.out H5.out.1 H5.out.2.1 H5.out.2.2).2.2
    refine bodyPost_ret (v := .agg #[.pointer p5]) (by simp [results, Try.results21, go_sem, z]) rfl ⟨_, rfl, (HEND.out H5.out.1 H5.out.2.1 H5.out.2.2).1, (HEND.out H5.out.1 H5.out.2.1 H5.out.2.2).2.1⟩
  · have hd : decide (n < 0) = false := by simp; omega
    rw [hd] at HOF
    obtain ⟨nn, rfl⟩ := Int.eq_ofNat_of_zero_le (show 0 ≤ n by omega)
    have hof2 := HOF.out
    simp only [Int.natAbs_natCast] at hof2
    have HOF2 := Sealed.mk hof2; clear hof2 HOF
    have hw1 : IntKind.u64.wrap (nn : Int) = (nn : Int) := by rw [IntKind.wrap_u64]; omega
    have HH := Sealed.mk (And.intro h1 (And.intro h2 hN)); clear h1 h2 hN hs hd hneg
    go_enter Try.func21, Try.ntmps21
    clear hw0
    go_wp2_with (first
      | (go_at_call 52; go_must (refine HNW.out.mono ?_; rintro e w1 ⟨b1, rfl, hi1, hb1, hm1⟩))
      | (go_at_call 58; go_must (refine (HOF2.out _ _ _ hi1).mono ?_; rintro e w4 ⟨vs4, b4, a4, c4, rfl, hown4, hl4, hc4, hst4, hfs4, hm4⟩; have hg4 := give_any hst4.inv (TL.of_own hown4 hl4) hc4; rw [hst4.p] at hg4; have HG4 := Sealed.mk hg4; clear hg4))
      | (go_at_call 56; go_must (refine HG4.out.mono ?_; intro e w5 hg5; obtain ⟨p5, rfl, hnum5, hb5⟩ := HF.out hb1 hm1 hst4 hg5; have x5 := (hb5.block w.heap.size (by simp)).trans (blk_alloc w _); have c5 : ∀ o, (w5.alloc o).cell? ⟨w.heap.size, 0, none⟩ = some (.pointer none) := fun o => (cell_of_blk (blk_alloc_old x5 o) 0).trans rfl; have f5 : ∀ o, (w5.alloc o).frozen? ⟨w.heap.size, 0, none⟩ = false := fun o => frozen_of_blk (blk_alloc_old x5 o) 0; have H5 := Sealed.mk (And.intro hnum5 (And.intro hb5 x5)); clear hnum5 hb5 x5 hg5 hi1 hb1 hm1 hown4 hl4 hc4 hst4 hfs4 hm4)))
    have z := (HEND.out H5.out.1 H5.out.2.1 H5.out.2.2).2.2
    refine bodyPost_ret (v := .agg #[.pointer p5]) (by simp [results, Try.results21, go_sem, z]) rfl ⟨_, rfl, (HEND.out H5.out.1 H5.out.2.1 H5.out.2.2).1, (HEND.out H5.out.1 H5.out.2.1 H5.out.2.2).2.1⟩
end Go.Proofs.Ytgchfbfgjanaiaa

namespace Go.Proofs.Ytgchfbfgjanaiaa
open Go.RowKit Sr
def AddOut (w : World) (z : Int) (e : Ending) (w' : World) : Prop :=
  ∃ p er, e = .returned (.tuple #[.agg #[.pointer p], .int .i64 er]) ∧ Below w.heap.size w w' ∧ ((Allowed z ∧ er = 0 ∧ NumIs w' (.agg #[.pointer p]) z) ∨ (¬ Allowed z ∧ p = none ∧ er = 5))
theorem GiveOut.told {U : List Int} {w w' : World} {b : WB} {vs : List Int} {z : Int} {e : Ending} (h : GiveOut U w b vs z e w') :
    ∃ p er, e = .returned (.tuple #[.agg #[.pointer p], .int .i64 er]) ∧ WInv w' b vs U ∧ Ext (fun k => k = b.r3) w w' ∧ ((Allowed z ∧ er = 0 ∧ NumIs w' (.agg #[.pointer p]) z) ∨ (¬ Allowed z ∧ p = none ∧ er = 5)) := by
  obtain ⟨h1, h2, u, ⟨h3, rfl, h4⟩ | ⟨h3, rfl⟩⟩ := h
  · obtain ⟨p, rfl⟩ := h4.ptr
    exact ⟨p, 0, rfl, h1, h2, .inl ⟨h3, rfl, h4⟩⟩
  · exact ⟨none, 5, rfl, h1, h2, .inr ⟨h3, rfl, rfl⟩⟩
theorem sum_two {w5 W6 w7 : World} {b2 : WB} {vs2 U : List Int} {x y : Int} {a7 : Option Addr} {c7 : Nat} (hinv : WInv w5 b2 vs2 U) (bd : Below w5.heap.size w5 W6) (hb7 : Below W6.heap.size W6 w7)
    (hown : w7.ownsRow W6.heap.size 98 2 (.slice a7 ((enc vs2 x).length + (enc vs2 y).length) c7) ((enc vs2 x).length + (enc vs2 y).length) (tcells (enc vs2 x ++ enc vs2 y)))
    (hlx : (enc vs2 x).length ≤ 300) (hly : (enc vs2 y).length ≤ 300) (hx : x ∈ vs2) (hy : y ∈ vs2) (hN : ∀ p, SumAt (form x ++ form y) p → NextIn U p) :
    Calls Try.prog 73 #[.pointer (some ⟨b2.p, 0, none⟩), .slice a7 ((enc vs2 x).length + (enc vs2 y).length) c7] w7 fun e w' => ∃ vs' b' a c, e = .returned (.slice a (enc vs' (x + y)).length c) ∧
      TL w' (.slice a (enc vs' (x + y)).length c) (enc vs' (x + y)) ∧ Cov vs' (x + y) ∧ WStep U w7 w' b2 b' vs2 vs' := by
  have b57 : Below w5.heap.size w5 w7 := bd.trans ⟨hb7.os, hb7.tape, hb7.output, hb7.size, fun k hk => hb7.block k (by have := bd.size; omega)⟩
  have e1 : enc vs2 x ++ enc vs2 y = encL vs2 (form x ++ form y) := by simp [enc, encL]
  have e2 : (enc vs2 x).length + (enc vs2 y).length = (encL vs2 (form x ++ form y)).length := by rw [← e1]; simp
  have hl : TL w7 (.slice a7 ((enc vs2 x).length + (enc vs2 y).length) c7) (encL vs2 (form x ++ form y)) := TL.of_own (by rw [← e2, ← e1]; exact hown) (by omega)
  have hs := sum_any (hinv.below b57) hl (by have : (encL vs2 (form x ++ form y)).length = (form x ++ form y).length := by simp [encL]
                                             omega) (fun t ht => by
      rcases List.mem_append.1 ht with h | h
      · exact hinv.cl.cov hx t h
      · exact hinv.cl.cov hy t h) (fun k hk hM => by have h1 := own_ge hown k hk; have h2 := hinv.lt k hM; have := bd.size; omega) (fun p hp => next_any (hN p hp))
  refine hs.mono ?_
  rintro e w' ⟨vs', b', a, c, rfl, h1, h2, h3, h4, -, -⟩
  have ev : val (form x ++ form y) = x + y := by rw [val_append, val_form, val_form]
  rw [ev] at h1 h2 h3 ⊢
  exact ⟨vs', b', a, c, rfl, TL.of_own h1 h2, h3, h4⟩
theorem put_kept {U : List Int} {w5 W6 w7 w8 w9 : World} {b2 b3 : WB} {vs2 vs3 : List Int} {q n : Nat} {o : Obj} (z5 : w5.heap[q]? = some o) (bd : Below w5.heap.size w5 W6) (hb7 : Below W6.heap.size W6 w7) (hs8 : WStep U w7 w8 b2 b3 vs2 vs3)
    (hn2 : ∀ k, b2.M k → n ≤ k) (hx9 : Ext (fun k => k = b3.r3) w8 w9) (hq : q < n) : w9.heap[q]? = some o := by
  have z6 := (bd.block _ (lt_of_blk z5)).trans z5
  have z7 := (hb7.block _ (lt_of_blk z6)).trans z6
  have z8 := hs8.ext.get z7 (fun hm => by have := hn2 _ hm; omega)
  refine hx9.get z8 (fun e => ?_)
  have e' : q = b3.r3 := e
  rcases hs8.news b3.r3 (.inr (.inr (.inr (.inr rfl)))) with h | h
  · have := hn2 _ h; omega
  · have := lt_of_blk z7; omega
theorem put_below {U : List Int} {w w5 W6 w7 w8 w9 : World} {b2 b3 : WB} {vs2 vs3 : List Int} {n : Nat} (b05 : Below w.heap.size w w5) (bd : Below w5.heap.size w5 W6) (hb7 : Below W6.heap.size W6 w7) (hs8 : WStep U w7 w8 b2 b3 vs2 vs3)
    (hn2 : ∀ k, b2.M k → n ≤ k) (hn : w.heap.size ≤ n) (hx9 : Ext (fun k => k = b3.r3) w8 w9) : Below w.heap.size w w9 := by
  have b6 := below_ext b05 (Ext.of_below (M := noB) bd) (fun _ h => h.elim)
  have b7 := below_ext b6 (Ext.of_below (M := noB) hb7) (fun _ h => h.elim)
  have b8 := below_ext b7 hs8.ext (fun k hk => by have := hn2 k hk; omega)
  refine below_ext b8 hx9 (fun k hk => ?_)
  have e' : k = b3.r3 := hk
  rcases hs8.news k (.inr (.inr (.inr (.inr e')))) with h | h
  · have := hn2 _ h; omega
  · have := b7.size; omega
set_option maxRecDepth 100000 in
set_option maxHeartbeats 4000000 in
theorem Add_any {w : World} {u v : Value} {x y : Int} (hx : NumIs w u x) (hy : NumIs w v y) {U : List Int} (hU0 : (0 : Int) ∈ U) (hUl : U.length ≤ roomW) (hUx : ∀ e : Nat, Part e x → (e : Int) ∈ U) (hUy : ∀ e : Nat, Part e y → (e : Int) ∈ U) (hUx1 : x ∈ U) (hUy1 : y ∈ U)
    (hN : ∀ p, SumAt (form x ++ form y) p → NextIn U p) : Calls Try.prog 32 #[u, v] w (AddOut w (x + y)) := by
  obtain ⟨p, rfl⟩ := hx.ptr
  obtain ⟨q, rfl⟩ := hy.ptr
  obtain ⟨W2, hW2⟩ : ∃ W2, W2 = ((w.alloc (.cells #[.pointer p] 30)).alloc (.cells #[.pointer q] 30)).alloc (.cells #[.pointer none] 30) := ⟨_, rfl⟩
  have s2 : W2.heap.size = w.heap.size + 1 + 1 + 1 := by rw [hW2]; simp
  have b2 : Below w.heap.size w W2 := by rw [hW2]; exact (((Below.refl _ _).alloc (Nat.le_refl _) _).alloc (by simp) _).alloc (by simp; omega) _
  have x0 := blk_alloc_old (blk_alloc_old (blk_alloc w (.cells #[.pointer p] 30)) (.cells #[.pointer q] 30)) (.cells #[.pointer none] 30)
  have x1 := blk_alloc_old (blk_alloc (w.alloc (.cells #[.pointer p] 30)) (.cells #[.pointer q] 30)) (.cells #[.pointer none] 30)
  have x2 := blk_alloc ((w.alloc (.cells #[.pointer p] 30)).alloc (.cells #[.pointer q] 30)) (.cells #[.pointer none] 30)
  simp only [World.size_alloc] at x1 x2
  rw [← hW2] at x0 x1 x2
  have hnw := newWorld_any (w := W2) (U := U) hU0 hUl
  rw [hW2] at hnw
  have HNW := Sealed.mk hnw; clear hnw
  have HU := Sealed.mk (And.intro hUx (And.intro hUy (And.intro hUx1 (And.intro hUy1 hN)))); clear hU0 hUl hUx hUy hUx1 hUy1 hN
  have HO2 := Sealed.mk x2; clear x2
  have H := Sealed.mk (And.intro hx (And.intro hy (And.intro s2 (And.intro b2 (And.intro x0 (And.intro x1 hW2)))))); clear hx hy s2 b2 x0 x1 hW2
  go_enter Try.func32, Try.ntmps32
  go_upto_region 4 with (first
    | (go_at_call 52; go_must (refine HNW.out.mono ?_; rintro e w3 ⟨b, rfl, hi3, hb3, hM3⟩; rw [← H.out.2.2.2.2.2.2] at hb3 hM3; have f0 : w3.cell? ⟨w.heap.size, 0, none⟩ = some (.pointer p) := (cell_of_blk ((hb3.block _ (lt_of_blk H.out.2.2.2.2.1)).trans H.out.2.2.2.2.1) 0).trans rfl; have z1 := (hb3.block _ (lt_of_blk H.out.2.2.2.2.2.1)).trans H.out.2.2.2.2.2.1; have z2 := (hb3.block _ (lt_of_blk HO2.out)).trans HO2.out; have b03 : Below w.heap.size w w3 := below_ext H.out.2.2.2.1 (Ext.of_below (M := noB) hb3) (fun _ h => h.elim); have hM : ∀ k, b.M k → w.heap.size + 1 + 1 + 1 ≤ k := fun k hk => (by have := hM3 k hk; have := H.out.2.2.1; omega); have ht := wtake_any hi3 H.out.1 b03 (fun k hk => by have := hM k hk; omega) HU.out.1 HU.out.2.2.1; have HT := Sealed.mk ht; clear ht; have H3 := Sealed.mk (And.intro hi3 (And.intro b03 (And.intro hM (And.intro z1 z2)))); clear hi3 b03 hM z1 z2 hb3 hM3))
    | (go_at_call 69; go_must (first
      | (refine HT.out.mono ?_; rintro e w4 ⟨vs1, b1, rfl, hin1, hs1, -⟩; have hM := H3.out.2.2.1; have z1 := hs1.ext.get H3.out.2.2.2.1 (fun hm => by have := hM _ hm; omega); have z2 := hs1.ext.get H3.out.2.2.2.2 (fun hm => by have := hM _ hm; omega); have f1 : w4.cell? ⟨w.heap.size + 1, 0, none⟩ = some (.pointer q) := (cell_of_blk z1 0).trans rfl; have b04 : Below w.heap.size w w4 := below_ext H3.out.2.1 hs1.ext (fun k hk => by have := hM k hk; omega); have hM1 : ∀ k, b1.M k → w.heap.size ≤ k := news_ge hs1 (fun k hk => by have := hM k hk; omega) H3.out.2.1.size; have ht := wtake_any hs1.inv H.out.2.1 b04 hM1 HU.out.2.1 HU.out.2.2.2.1; rw [hs1.p] at ht; have HT2 := Sealed.mk ht; clear ht; have H4 := Sealed.mk (And.intro hin1 (And.intro hs1 (And.intro b04 (And.intro hM1 z2)))); clear hin1 hs1 b04 hM1 z1 z2 hM HT)
      | (refine HT2.out.mono ?_; rintro e w5 ⟨vs2, b2, rfl, hin2, hs2, -⟩; have HS2 := Sealed.mk (And.intro hin2 hs2); clear hin2 hs2))))
  obtain ⟨hin1, hs1, b04, hM1, z24⟩ := H4.out
  obtain ⟨hin2, hs2⟩ := HS2.out
  have hn1 : ∀ k, b1.M k → w.heap.size + 1 + 1 + 1 ≤ k := fun k hk => by
    rcases hs1.news k hk with h | h
    · exact H3.out.2.2.1 k h
    · have := lt_of_blk H3.out.2.2.2.2; omega
  have hn2 : ∀ k, b2.M k → w.heap.size + 1 + 1 + 1 ≤ k := fun k hk => by
    rcases hs2.news k hk with h | h
    · exact hn1 k h
    · have := lt_of_blk z24; omega
  have z25 := hs2.ext.get z24 (fun hm => by have := hn1 _ hm; omega)
  have b05 := below_ext b04 hs2.ext hM1
  have ep : b2.p = b.p := hs2.p.trans hs1.p
  have hi : vs2[vs1.idxOf x]? = some x := by rw [← idxOf_prefix hs2.pre hin1]; exact idxOf_get (hs2.pre.subset hin1)
  have hj : vs2[vs2.idxOf y]? = some y := idxOf_get hin2
  have hxin := hs2.pre.subset hin1
  have hinv := hs2.inv
  generalize vs1.idxOf x = i at hi ⊢
  generalize vs2.idxOf y = j at hj ⊢
  obtain ⟨nv, hnv⟩ : ∃ nv, nv = vs2.length := ⟨_, rfl⟩
  have hil : i < nv := by rw [hnv]; exact (List.getElem?_eq_some_iff.1 hi).1
  have hjl : j < nv := by rw [hnv]; exact (List.getElem?_eq_some_iff.1 hj).1
  obtain ⟨cap, cur, f1, f2, f3, f4, f5, f6⟩ := hinv.forms
  obtain ⟨va, g1, t1, o1⟩ := f6 i x hi
  obtain ⟨vb, g2, t2, o2⟩ := f6 j y hj
  have c0 : w5.drew.cell? ⟨b.p, 0, none⟩ = some (.slice (some ⟨b2.f, 0, none⟩) nv cap) := by rw [← ep, hnv]; exact (cell_of_blk f1 0).trans rfl
  have c1 : w5.drew.cell? ⟨b2.f, i, none⟩ = some va := (cell_of_blk f2 i).trans g1
  have c2 : w5.drew.cell? ⟨b2.f, j, none⟩ = some vb := (cell_of_blk f2 j).trans g2
  have bd : Below w5.heap.size w5 (w5.drew.alloc (.cells #[va, vb] 96)) := by
    have := (Below.refl w5.heap.size w5).alloc (Nat.le_refl _) (.cells #[va, vb] 96)
    exact ⟨this.os, this.tape, this.output, this.size, this.block⟩
  have hcc := concat_two (w := w5.drew.alloc (.cells #[va, vb] 96)) (bs := w5.heap.size) (blk_alloc w5.drew _) (t1.below bd) (t2.below bd)
  have HCC := Sealed.mk hcc; clear hcc
  have H5 := Sealed.mk (And.intro hinv (And.intro hn2 (And.intro z25 (And.intro b05 (And.intro hxin (And.intro hin2 (And.intro bd ep)))))))
  obtain ⟨aa, na, ca, eva⟩ := t1.slice
  obtain ⟨ab, nb, cb, evb⟩ := t2.slice
  subst eva
  subst evb
  clear hinv hn1 hn2 z25 b05 hxin hin2 bd ep hin1 hs1 b04 hM1 z24 hs2 hi hj hnv f1 f2 f3 f4 f5 f6 g1 g2 t1 t2 o1 o2
  have hiz : (0 : Int) ≤ (i : Int) := by omega
  have hjz : (0 : Int) ≤ (j : Int) := by omega
  have hlx : (enc vs2 x).length ≤ 300 := by have := H.out.1.1.1; simpa [enc] using this
  have hly : (enc vs2 y).length ≤ 300 := by have := H.out.2.1.1.1; simpa [enc] using this
  have HL := Sealed.mk (And.intro hlx hly); clear hlx hly
  go_region_law
    (first
      | (go_simp; go_at_call 76; go_must (refine HCC.out.mono ?_; rintro e7 w7 ⟨a7, c7, rfl, hown7, hb7⟩; have hsm := sum_two H5.out.1 H5.out.2.2.2.2.2.2.1 hb7 hown7 HL.out.1 HL.out.2 H5.out.2.2.2.2.1 H5.out.2.2.2.2.2.1 HU.out.2.2.2.2; rw [H5.out.2.2.2.2.2.2.2] at hsm; have HSM := Sealed.mk hsm; have HB7 := Sealed.mk hb7; clear hsm hown7 hb7); try go_simp)
      | (go_simp; go_at_call 73; go_must (refine HSM.out.mono ?_; rintro e8 w8 ⟨vs3, b3, a8, c8, rfl, hl8, hc8, hs8⟩; have hgv := give_any hs8.inv hl8 hc8; rw [hs8.p, H5.out.2.2.2.2.2.2.2] at hgv; have HGV := Sealed.mk hgv; have HS8 := Sealed.mk hs8; clear hgv hl8 hc8 hs8); try go_simp)
      | (go_simp; go_at_call 56; go_must (refine HGV.out.mono ?_; rintro e9 w9 h9; obtain ⟨pp, er, rfl, hi9, hx9, hres⟩ := h9.told; have hz9 : w9.heap[w.heap.size + 1 + 1]? = some (.cells #[.pointer none] 30 (0, 0)) := (put_kept H5.out.2.2.1 H5.out.2.2.2.2.2.2.1 HB7.out HS8.out H5.out.2.1 hx9 (by omega)); have v9 : w9.cell? ⟨w.heap.size + 1 + 1, 0, none⟩ = some (.pointer none) := (cell_of_blk hz9 0).trans rfl; have v9' : w9.frozen? ⟨w.heap.size + 1 + 1, 0, none⟩ = false := frozen_of_blk hz9 0; have H9 := Sealed.mk (And.intro hz9 (And.intro hx9 hres)); clear hz9 hx9 hres hi9 h9); try go_simp))
  all_goals
    go_wp2_with fail
    obtain ⟨hz9, hx9, hres⟩ := H9.out
    have b9 := put_below H5.out.2.2.2.1 H5.out.2.2.2.2.2.2.1 HB7.out HS8.out H5.out.2.1 (by omega) hx9
    have y0 : (w9.setCell ⟨w.heap.size + 1 + 1, 0, none⟩ (.pointer pp)).cell? ⟨w.heap.size + 1 + 1, 0, none⟩ = some (.pointer pp) := by rw [cell_of_blk (blk_setCell hz9 0 _)]; rfl
    refine bodyPost_ret (v := .tuple #[.agg #[.pointer pp], .int .i64 er]) (by simp [results, Try.results32, go_sem, y0]) rfl ⟨pp, er, rfl, b9.setCell (by show w.heap.size ≤ w.heap.size + 1 + 1; omega) _, ?_⟩
    rcases hres with ⟨h1, h2, h3⟩ | h
    · exact .inl ⟨h1, h2, h3.other hz9 ((Ext.refl (fun k => k = w.heap.size + 1 + 1) w9).setCell (p := ⟨w.heap.size + 1 + 1, 0, none⟩) (.inl rfl) _)⟩
    · exact .inr h
end Go.Proofs.Ytgchfbfgjanaiaa

namespace Go.Proofs.Ytgchfbfgjanaiaa
open Go.RowKit Sr
theorem part_neg {e : Nat} {x : Int} : Part e (-x) ↔ Part e x := by
  constructor
  · intro h
    cases h with
    | here h => exact .here (by rwa [exps_neg] at h)
    | deep h1 h2 => exact .deep (by rwa [exps_neg] at h1) h2
  · intro h
    cases h with
    | here h => exact .here (by rwa [exps_neg])
    | deep h1 h2 => exact .deep (by rwa [exps_neg]) h2
theorem plist_neg (x : Int) : plist (-x) = plist x := plist_of (plist_up x) fun e => by rw [part_neg]; exact mem_plist
theorem pvs_neg (x : Int) : pvs (-x) = pvs x := by unfold pvs; rw [plist_neg]
theorem allowed_neg {x : Int} (h : Allowed x) : Allowed (-x) := by
  obtain ⟨h1, h2, h3, h4⟩ := h
  refine ⟨?_, fun e he => h2 e (part_neg.1 he), ?_, ?_⟩
  · rw [form_neg]; simpa [neg] using h1
  · unfold weight at *; rw [plist_neg]; exact h3
  · rw [height_eq, exps_neg, ← height_eq]; exact h4
theorem enc_neg (x : Int) : enc (pvs (-x)) (-x) = negT (enc (pvs x) x) := by
  rw [pvs_neg]
  unfold enc negT
  rw [form_neg]
  simp [neg, List.map_map, Function.comp_def]
set_option maxRecDepth 100000 in
set_option maxHeartbeats 4000000 in
theorem Neg_any {w : World} {u : Value} {x : Int} (hx : NumIs w u x) : Calls Try.prog 39 #[u] w fun e w' => ∃ r, e = .returned r ∧ NumIs w' r (-x) ∧ Below w.heap.size w w' := by
  have hal := allowed_neg hx.1
  rcases hx.2 with ⟨rfl, rfl⟩ | ⟨h0, k, rfl, pv, sv, h1, h2, h3⟩
  · go_enter Try.func39, Try.ntmps39
    go_wp2_with fail
    refine bodyPost_ret (v := .agg #[.pointer none]) (by simp [results, Try.results39, go_sem]) rfl ⟨_, rfl, NumIs.zero _, ?_⟩
    repeat (first | exact Below.refl _ _ | refine Below.alloc ?_ (by simp; done) _ | refine Below.alloc ?_ (by simp; omega) _)
  · obtain ⟨pa, pn, pc, hpv⟩ : ∃ a n c, pv = .slice a n c := by obtain ⟨_, a, c, hh, _⟩ := h2; exact ⟨a, _, c, hh⟩
    obtain ⟨sa, sn, sc, hsv⟩ := h3.slice
    obtain ⟨W2, hW2⟩ : ∃ W2, W2 = (w.alloc (.cells #[.pointer (some ⟨k, 0, none⟩)] 30)).alloc (.cells #[.pointer none] 30) := ⟨_, rfl⟩
    have b2 : Below w.heap.size w W2 := by rw [hW2]; exact ((Below.refl _ _).alloc (Nat.le_refl _) _).alloc (by simp) _
    have x0 := blk_alloc_old (blk_alloc w (.cells #[.pointer (some ⟨k, 0, none⟩)] 30)) (.cells #[.pointer none] 30)
    have x1 := blk_alloc (w.alloc (.cells #[.pointer (some ⟨k, 0, none⟩)] 30)) (.cells #[.pointer none] 30)
    simp only [World.size_alloc] at x1
    rw [← hW2] at x0 x1
    have zk := (b2.block k (lt_of_blk h1)).trans h1
    have bd : Below W2.heap.size W2 W2.drew := ⟨rfl, rfl, rfl, Nat.le_refl _, fun _ _ => rfl⟩
    have hng := negated_any (w := W2.drew) (v := sv) (l := enc (pvs x) x) ((h3.below b2).below bd)
    obtain ⟨n, hn⟩ : ∃ n, n = (enc (pvs x) x).length := ⟨_, rfl⟩
    rw [← hn] at hng
    have HN := Sealed.mk hn; clear hn
    have hkl := lt_of_blk h1
    have ks : ∀ w', Ext (fun q => q = w.heap.size + 1) W2 w' → w'.cell? ⟨w.heap.size, 0, none⟩ = some (.pointer (some ⟨k, 0, none⟩)) ∧ w'.cell? ⟨k, 0, none⟩ = some pv ∧ w'.cell? ⟨k, 1, none⟩ = some sv := fun w' hx => by
      have y0 := hx.get x0 (by omega)
      have y1 := hx.get zk (by omega)
      exact ⟨(cell_of_blk y0 0).trans rfl, (cell_of_blk y1 0).trans rfl, (cell_of_blk y1 1).trans rfl⟩
    have HKS := Sealed.mk ks; clear ks
    have HNG := Sealed.mk hng; clear hng
    have HX2 := Sealed.mk ((Ext.refl (fun q => q = w.heap.size + 1) W2).drew)
    have H := Sealed.mk (And.intro h0 (And.intro h1 (And.intro h2 (And.intro h3 (And.intro b2 (And.intro x1 hal)))))); clear h0 h1 h2 h3 b2 x0 x1 zk hal hx bd
    have HW := Sealed.mk hW2; clear hW2
    subst hpv
    subst hsv
    go_enter Try.func39, Try.ntmps39
    go_upto_region 3 with fail
    rw [← HW.out]
    go_region_held3 (fun w' => w'.cell? ⟨w.heap.size, 0, none⟩ = some (.pointer (some ⟨k, 0, none⟩)) ∧ w'.cell? ⟨k, 0, none⟩ = some (.slice pa pn pc) ∧ w'.cell? ⟨k, 1, none⟩ = some (.slice sa sn sc))
      (first | exact HKS.out _ HX3.out | exact HKS.out _ (HX3.out.alloc _) | exact HKS.out _ HX2.out | exact HKS.out _ ((HX3.out.alloc _).setCell (.inl rfl) _))
      ((go_at_call 77; go_must (refine HNG.out.mono ?_; rintro e w3 ⟨a3, c3, rfl, hown3, hb3⟩; have z3 := (hb3.block _ (lt_of_blk H.out.2.2.2.2.2.1)).trans H.out.2.2.2.2.2.1; have d0 : ∀ o, (w3.alloc o).cell? ⟨w.heap.size + 1, 0, none⟩ = some (.pointer none) := fun o => (cell_of_blk (blk_alloc_old z3 o) 0).trans rfl; have d1 : ∀ o, (w3.alloc o).frozen? ⟨w.heap.size + 1, 0, none⟩ = false := fun o => frozen_of_blk (blk_alloc_old z3 o) 0; have HX3 := Sealed.mk (HX2.out.trans (Ext.of_below (M := noB) hb3) (fun _ h => h.elim)); have H3 := Sealed.mk (And.intro z3 (And.intro hown3 hb3)); clear z3 hown3 hb3)))
    go_wp2_with fail
    obtain ⟨W4, hW4⟩ : ∃ W4, W4 = (w3.alloc (.cells #[.slice pa pn pc, .slice a3 n c3] 128)).setCell ⟨w.heap.size + 1, 0, none⟩ (.pointer (some ⟨w3.heap.size, 0, none⟩)) := ⟨_, rfl⟩
    rw [← hW4]
    obtain ⟨h0, h1, h2, h3, b2, x1, hal⟩ := H.out
    obtain ⟨z3, hown3, hb3⟩ := H3.out
    have hlt : w.heap.size + 1 < w3.heap.size := lt_of_blk z3
    have e34 : Ext (fun q => q = w.heap.size + 1) w3 W4 := by rw [hW4]; exact ((Ext.refl (fun q => q = w.heap.size + 1) w3).alloc _).setCell (p := ⟨w.heap.size + 1, 0, none⟩) (.inl rfl) _
    have z4 : W4.heap[w.heap.size + 1]? = some (.cells #[.pointer (some ⟨w3.heap.size, 0, none⟩)] 30 (0, 0)) := by
      rw [hW4, blk_setCell (blk_alloc_old z3 _) 0 _]
      rfl
    have y0 : W4.cell? ⟨w.heap.size + 1, 0, none⟩ = some (.pointer (some ⟨w3.heap.size, 0, none⟩)) := (cell_of_blk z4 0).trans rfl
    have b04 : Below w.heap.size w W4 := below_ext (below_ext b2 ((Ext.refl noB W2).drew.trans (Ext.of_below (M := noB) hb3) (fun _ h => h.elim)) (fun _ h => h.elim)) e34 (fun q hq => by omega)
    refine bodyPost_ret (v := .agg #[.pointer (some ⟨w3.heap.size, 0, none⟩)]) (by simp [results, Try.results39, go_sem, y0]) rfl ⟨_, rfl, ⟨hal, .inr ⟨by omega, _, rfl, .slice pa pn pc, .slice a3 n c3, ?_, ?_, ?_⟩⟩, b04⟩
    · rw [hW4]
      exact ((Ext.refl (fun q => q = w.heap.size + 1) _).setCell (p := ⟨w.heap.size + 1, 0, none⟩) (.inl rfl) _).get (blk_alloc w3 _) (by omega)
    · obtain ⟨p0, a', c', q1, q2, q3⟩ := h2.below b04
      refine ⟨p0, a', c', by rw [plist_neg]; exact q1, by rw [plist_neg]; exact q2, fun hne => ?_⟩
      rw [plist_neg] at hne
      obtain ⟨b, o, e, hr⟩ := q3 hne
      exact ⟨b, o, e, ⟨fun i f hf => by rw [plist_neg] at hf; rw [pvs_neg]; exact hr.get i f hf, hr.ty⟩⟩
    · rw [enc_neg]
      have hl : (negT (enc (pvs x) x)).length = n := by rw [HN.out]; simp [negT]
      have ht := TL.of_own (l := negT (enc (pvs x) x)) (by rw [hl]; exact hown3) (by rw [hl, HN.out]; exact h3.1)
      rw [show (Value.slice a3 n c3) = .slice a3 n c3 from rfl]
      refine ht.ext e34 fun q hq e => ?_
      have h5 := own_ge hown3 q hq
      have h6 := lt_of_blk x1
      have h7 : W2.drew.heap.size = W2.heap.size := rfl
      omega
end Go.Proofs.Ytgchfbfgjanaiaa

namespace Go.Proofs.Ytgchfbfgjanaiaa
open Go.RowKit Sr
set_option maxRecDepth 100000 in
set_option maxHeartbeats 4000000 in
theorem Sub_any {w : World} {u v : Value} {x y : Int} (hx : NumIs w u x) (hy : NumIs w v y) {U : List Int} (hU0 : (0 : Int) ∈ U) (hUl : U.length ≤ roomW) (hUx : ∀ e : Nat, Part e x → (e : Int) ∈ U) (hUy : ∀ e : Nat, Part e y → (e : Int) ∈ U) (hUx1 : x ∈ U) (hUy1 : -y ∈ U)
    (hN : ∀ p, SumAt (form x ++ form (-y)) p → NextIn U p) : Calls Try.prog 33 #[u, v] w (AddOut w (x + -y)) := by
  obtain ⟨p, rfl⟩ := hx.ptr
  obtain ⟨q, rfl⟩ := hy.ptr
  obtain ⟨W2, hW2⟩ : ∃ W2, W2 = ((w.alloc (.cells #[.pointer p] 30)).alloc (.cells #[.pointer q] 30)).alloc (.cells #[.pointer none] 30) := ⟨_, rfl⟩
  have s2 : W2.heap.size = w.heap.size + 1 + 1 + 1 := by rw [hW2]; simp
  have b2 : Below w.heap.size w W2 := by rw [hW2]; exact (((Below.refl _ _).alloc (Nat.le_refl _) _).alloc (by simp) _).alloc (by simp; omega) _
  have x0 := blk_alloc_old (blk_alloc_old (blk_alloc w (.cells #[.pointer p] 30)) (.cells #[.pointer q] 30)) (.cells #[.pointer none] 30)
  have x1 := blk_alloc_old (blk_alloc (w.alloc (.cells #[.pointer p] 30)) (.cells #[.pointer q] 30)) (.cells #[.pointer none] 30)
  have x2 := blk_alloc ((w.alloc (.cells #[.pointer p] 30)).alloc (.cells #[.pointer q] 30)) (.cells #[.pointer none] 30)
  simp only [World.size_alloc] at x1 x2
  rw [← hW2] at x0 x1 x2
  have bd : Below W2.heap.size W2 W2.drew := ⟨rfl, rfl, rfl, Nat.le_refl _, fun _ _ => rfl⟩
  have hng := Neg_any (w := W2.drew) ((hy.below b2).below bd)
  have c0 : W2.drew.cell? ⟨w.heap.size, 0, none⟩ = some (.pointer p) := (cell_of_blk x0 0).trans rfl
  have c1 : W2.drew.cell? ⟨w.heap.size + 1, 0, none⟩ = some (.pointer q) := (cell_of_blk x1 0).trans rfl
  have HNG := Sealed.mk hng; clear hng
  have HU := Sealed.mk (And.intro hU0 (And.intro hUl (And.intro hUx (And.intro (fun e he => hUy e (part_neg.1 he)) (And.intro hUx1 (And.intro hUy1 hN)))))); clear hU0 hUl hUx hUy hUx1 hUy1 hN
  have H := Sealed.mk (And.intro hx (And.intro s2 (And.intro b2 (And.intro x0 x2)))); clear hx hy s2 b2 x0 x1 x2 bd
  have HW := Sealed.mk hW2; clear hW2
  go_enter Try.func33, Try.ntmps33
  go_upto_region 1 with fail
  rw [← HW.out]
  go_region_law
    (first
      | (go_simp; go_at_call 39; go_must (refine HNG.out.mono ?_; rintro e3 w3 ⟨r, rfl, hr, hb3⟩; have b3 : Below W2.heap.size W2 w3 := ⟨hb3.os, hb3.tape, hb3.output, hb3.size, hb3.block⟩; have b03 := below_ext H.out.2.2.1 (Ext.of_below (M := noB) b3) (fun _ h => h.elim); have f0 : w3.cell? ⟨w.heap.size, 0, none⟩ = some (.pointer p) := (cell_of_blk ((b3.block _ (lt_of_blk H.out.2.2.2.1)).trans H.out.2.2.2.1) 0).trans rfl; have had := Add_any (H.out.1.below b03) hr HU.out.1 HU.out.2.1 HU.out.2.2.1 HU.out.2.2.2.1 HU.out.2.2.2.2.1 HU.out.2.2.2.2.2.1 HU.out.2.2.2.2.2.2; have HAD := Sealed.mk had; have H3 := Sealed.mk (And.intro b3 b03); clear had hr hb3 b3 b03); try go_simp)
      | (go_simp; go_at_call 32; go_must (refine HAD.out.mono ?_; rintro e4 w4 ⟨pp, er, rfl, hb4, hres⟩; have z3 := (H3.out.1.block _ (lt_of_blk H.out.2.2.2.2)).trans H.out.2.2.2.2; have z4 := (hb4.block _ (lt_of_blk z3)).trans z3; have v4 : w4.cell? ⟨w.heap.size + 1 + 1, 0, none⟩ = some (.pointer none) := (cell_of_blk z4 0).trans rfl; have v4' : w4.frozen? ⟨w.heap.size + 1 + 1, 0, none⟩ = false := frozen_of_blk z4 0; have H4 := Sealed.mk (And.intro z4 (And.intro hb4 hres)); clear z3 z4 hb4 hres); try go_simp))
  all_goals
    go_wp2_with fail
    obtain ⟨z4, hb4, hres⟩ := H4.out
    have b04 := below_ext H3.out.2 (Ext.of_below (M := noB) hb4) (fun _ h => h.elim)
    have y0 : (w4.setCell ⟨w.heap.size + 1 + 1, 0, none⟩ (.pointer pp)).cell? ⟨w.heap.size + 1 + 1, 0, none⟩ = some (.pointer pp) := by rw [cell_of_blk (blk_setCell z4 0 _)]; rfl
    refine bodyPost_ret (v := .tuple #[.agg #[.pointer pp], .int .i64 er]) (by simp [results, Try.results33, go_sem, y0]) rfl ⟨pp, er, rfl, b04.setCell (by show w.heap.size ≤ w.heap.size + 1 + 1; omega) _, ?_⟩
    rcases hres with ⟨h1, h2, h3⟩ | h
    · exact .inl ⟨h1, h2, h3.other z4 ((Ext.refl (fun k => k = w.heap.size + 1 + 1) w4).setCell (p := ⟨w.heap.size + 1 + 1, 0, none⟩) (.inl rfl) _)⟩
    · exact .inr h
end Go.Proofs.Ytgchfbfgjanaiaa

namespace Go.Proofs.Ytgchfbfgjanaiaa
open Go.RowKit Sr
def covU (P : List Nat) : List Int := (P.flatMap fun p => (List.range 18).map fun k => ((p + k : Nat) : Int)) ++ (List.range 1600).map fun n : Nat => (n : Int)
theorem covU_at {P : List Nat} {p k : Nat} (hp : p ∈ P) (hk : k ≤ 17) : ((p + k : Nat) : Int) ∈ covU P :=
  List.mem_append.2 (.inl (List.mem_flatMap.2 ⟨p, hp, List.mem_map.2 ⟨k, List.mem_range.2 (by omega), rfl⟩⟩))
theorem covU_low {P : List Nat} {n : Nat} (hn : n < 1600) : (n : Int) ∈ covU P :=
  List.mem_append.2 (.inr (List.mem_map.2 ⟨n, List.mem_range.2 hn, rfl⟩))
theorem covU_mem {P : List Nat} {p : Nat} (hp : p ∈ P) : (p : Int) ∈ covU P := covU_at (k := 0) hp (by omega)
theorem flat_length {α : Type} (f : α → List Int) (n : Nat) : ∀ l : List α, (∀ a ∈ l, (f a).length ≤ n) → (l.flatMap f).length ≤ l.length * n
  | [], _ => by simp
  | a :: l, h => by
    have h1 := flat_length f n l fun b hb => h b (by simp [hb])
    have h2 := h a (by simp)
    simp only [List.flatMap_cons, List.length_append, List.length_cons, Nat.add_mul]
    omega
theorem covU_length (P : List Nat) : (covU P).length ≤ P.length * 18 + 1600 := by
  have := flat_length (fun p : Nat => (List.range 18).map fun k => ((p + k : Nat) : Int)) 18 P (fun a _ => by simp)
  unfold covU
  simp only [List.length_append, List.length_map, List.length_range]
  omega
structure Hull (P : List Nat) : Prop where
  up : ∀ p ∈ P, ∀ f ∈ exps (p : Int), f ∈ P
  len : ∀ p ∈ P, wl (p : Int) ≤ 720
theorem two_pow_nat (n : Nat) : (n : Int) + 1 ≤ 2 ^ n := by
  have := lt_two_pow n
  omega
theorem hull_next {P : List Nat} (h : Hull P) {U : List Int} (hU : ∀ x ∈ covU P, x ∈ U) (n : Nat) : (∃ p ∈ P, ∃ k, k ≤ 16 ∧ n = p + k) ∨ n ≤ 1500 → NextIn U n := by
  induction n using Nat.strongRecOn with
  | _ n ih =>
    intro hn
    have hlen : wl (n : Int) ≤ 1500 := by
      rcases hn with ⟨p, hp, k, hk, rfl⟩ | hn
      · have h1 := wl_addn (p : Int) k
        have h2 := h.len p hp
        rw [← Int.natCast_add] at h1
        omega
      · have := form_length_nat n
        unfold wl
        omega
    refine .mk n ?_ ?_ ?_
    · rcases hn with ⟨p, hp, k, hk, rfl⟩ | hn
      · have := hU _ (covU_at hp (show k + 1 ≤ 17 by omega))
        rw [show ((p + (k + 1) : Nat) : Int) = ((p + k : Nat) : Int) + 1 by omega] at this
        exact this
      · have := hU _ (covU_low (show n + 1 < 1600 by omega))
        simpa using this
    · unfold wl at hlen
      omega
    · rintro q ⟨⟨t, ht, k, hk, rfl⟩, hsec⟩
      have hv : val (form (n : Int) ++ [(false, 0)]) = (n : Int) + 1 := by rw [val_append, val_form]; simp [val, tv]
      rw [hv] at hsec
      have hlt : t.2 + k < n := by
        rcases hsec with ⟨s, hs, hlt⟩ | hbig
        · rcases List.mem_append.1 hs with hs | hs
          · have := exps_lt (mem_exps.2 ⟨s, hs, rfl⟩)
            simp at this
            omega
          · simp at hs
            subst hs
            simp at hlt
        · apply Classical.byContradiction
          intro hge
          have h1 : (2 : Nat) ^ n ≤ 2 ^ (t.2 + k) := Nat.pow_le_pow_right (by decide) (by omega)
          have h2 : n < (2 : Nat) ^ n := Nat.lt_two_pow_self
          omega
      refine ih _ hlt ?_
      rcases List.mem_append.1 ht with ht | ht
      · have hte : t.2 ∈ exps (n : Int) := mem_exps.2 ⟨t, ht, rfl⟩
        rcases hn with ⟨p, hp, j, hj, rfl⟩ | hn
        · rw [Int.natCast_add] at hte
          rcases exps_addn (p : Int) j _ hte with h1 | h1
          · exact .inl ⟨t.2, h.up p hp _ h1, k, hk, rfl⟩
          · have h2 := h.len p hp
            exact .inr (by omega)
        · have h1 := exps_pow hte
          refine .inr ?_
          apply Classical.byContradiction
          intro hge
          have h2 := pow_mono (show 13 ≤ t.2 + 1 by omega)
          have h3 : (2 : Int) ^ 13 = 8192 := by decide
          simp at h1
          omega
      · simp at ht
        subst ht
        exact .inr (by simp; omega)
theorem hull_sum {P : List Nat} (h : Hull P) {U : List Int} (hU : ∀ x ∈ covU P, x ∈ U) {l : List T} (hl : ∀ t ∈ l, t.2 ∈ P) {p : Nat} (hp : SumAt l p) : NextIn U p := by
  obtain ⟨⟨t, ht, k, hk, rfl⟩, -⟩ := hp
  exact hull_next h hU _ (.inl ⟨t.2, hl t ht, k, hk, rfl⟩)
theorem hull_plist {x : Int} (hx : Allowed x) : Hull (plist x) where
  up p hp f hf := mem_plist.2 ((mem_plist.1 hp).up hf)
  len p hp := by
    have := hx.2.1 p (mem_plist.1 hp)
    unfold wl
    omega
theorem Hull.append {P Q : List Nat} (h : Hull P) (k : Hull Q) : Hull (P ++ Q) where
  up p hp f hf := by
    rcases List.mem_append.1 hp with hp | hp
    · exact List.mem_append.2 (.inl (h.up p hp f hf))
    · exact List.mem_append.2 (.inr (k.up p hp f hf))
  len p hp := by
    rcases List.mem_append.1 hp with hp | hp
    · exact h.len p hp
    · exact k.len p hp
theorem plist_len {x : Int} (hx : Allowed x) : (plist x).length ≤ 1999 := by
  have := hx.2.2.1
  unfold weight at this
  omega
theorem form_plist {x : Int} : ∀ t ∈ form x, t.2 ∈ plist x := fun t ht => mem_plist.2 (.here (mem_exps.2 ⟨t, ht, rfl⟩))
noncomputable def addU (x y : Int) : List Int := 0 :: x :: y :: covU (plist x ++ plist y)
theorem addU_length {x y : Int} (hx : Allowed x) (hy : Allowed y) : (addU x y).length ≤ roomW := by
  have h1 := plist_len hx
  have h2 := plist_len hy
  have h3 := covU_length (plist x ++ plist y)
  unfold addU roomW
  simp only [List.length_cons, List.length_append] at *
  omega
theorem addU_part {x y : Int} {e : Nat} (h : Part e x ∨ Part e y) : (e : Int) ∈ addU x y := by
  have : (e : Int) ∈ covU (plist x ++ plist y) := covU_mem (List.mem_append.2 (h.imp mem_plist.2 mem_plist.2))
  simp [addU, this]
theorem addU_next {x y : Int} (hx : Allowed x) (hy : Allowed y) {p : Nat} (hp : SumAt (form x ++ form y) p) : NextIn (addU x y) p :=
  hull_sum ((hull_plist hx).append (hull_plist hy)) (fun z hz => by simp [addU, hz]) (fun t ht => by
    rcases List.mem_append.1 ht with h | h
    · exact List.mem_append.2 (.inl (form_plist t h))
    · exact List.mem_append.2 (.inr (form_plist t h))) hp
end Go.Proofs.Ytgchfbfgjanaiaa

namespace Go.Proofs.Ytgchfbfgjanaiaa
open Go.RowKit Sr
theorem Add_all {w : World} {u v : Value} {x y : Int} (hx : NumIs w u x) (hy : NumIs w v y) : Calls Try.prog 32 #[u, v] w (AddOut w (x + y)) :=
  Add_any hx hy (U := addU x y) (by simp [addU]) (addU_length hx.1 hy.1) (fun e he => addU_part (.inl he)) (fun e he => addU_part (.inr he)) (by simp [addU]) (by simp [addU]) (fun p hp => addU_next hx.1 hy.1 hp)
theorem Sub_all {w : World} {u v : Value} {x y : Int} (hx : NumIs w u x) (hy : NumIs w v y) : Calls Try.prog 33 #[u, v] w (AddOut w (x + -y)) :=
  Sub_any hx hy (U := addU x (-y)) (by simp [addU]) (addU_length hx.1 (allowed_neg hy.1)) (fun e he => addU_part (.inl he)) (fun e he => addU_part (.inr (part_neg.2 he))) (by simp [addU]) (by simp [addU]) (fun p hp => addU_next hx.1 (allowed_neg hy.1) hp)
end Go.Proofs.Ytgchfbfgjanaiaa

namespace Go.Proofs.Ytgchfbfgjanaiaa
open Go.RowKit Sr
def shT (l : List T) (y : Int) (k : Nat) : List T := (l.take k).map (fun t => (t.1, ((t.2 : Int) + y).toNat)) ++ l.drop k
theorem shT_length (l : List T) (y : Int) (k : Nat) : (shT l y k).length = l.length := by simp [shT]; omega
theorem shT_zero (l : List T) (y : Int) : shT l y 0 = l := by simp [shT]
theorem shT_all (l : List T) (y : Int) : shT l y l.length = l.map fun t => (t.1, ((t.2 : Int) + y).toNat) := by simp [shT]
theorem shT_at {l : List T} {y : Int} {k : Nat} {t : T} (h : l[k]? = some t) : (shT l y k)[k]? = some t := by
  obtain ⟨hk, rfl⟩ := List.getElem?_eq_some_iff.1 h
  unfold shT
  rw [List.getElem?_append_right (by simp; omega)]
  simp [Nat.min_eq_left (Nat.le_of_lt hk), hk]
theorem shT_succ {l : List T} {y : Int} {k : Nat} {t : T} (h : l[k]? = some t) : shT l y (k + 1) = (shT l y k).set k (t.1, ((t.2 : Int) + y).toNat) := by
  obtain ⟨hk, rfl⟩ := List.getElem?_eq_some_iff.1 h
  unfold shT
  rw [take_snoc h, List.map_append, List.append_assoc, List.set_append_right _ _ (by simp; omega)]
  simp only [List.length_map, List.length_take, Nat.min_eq_left (Nat.le_of_lt hk), Nat.sub_self]
  rw [List.drop_eq_getElem_cons hk, List.set_cons_zero]
  rfl
theorem shT_mem {l : List T} {y : Int} {k : Nat} {t : T} (ht : t ∈ shT l y k) : (∃ s ∈ l.take k, t = (s.1, ((s.2 : Int) + y).toNat)) ∨ t ∈ l := by
  unfold shT at ht
  rcases List.mem_append.1 ht with ht | ht
  · obtain ⟨s, hs, rfl⟩ := List.mem_map.1 ht
    exact .inl ⟨s, hs, rfl⟩
  · exact .inr (List.mem_of_mem_drop ht)
structure SH (U : List Int) (w0 : World) (b0 : WB) (vs0 : List Int) (x y : Int) (k : Nat) (v : Value) (wr : World) (vs1 : List Int) (b1 : WB) : Prop where
  oi : OI U w0 b0 vs0 v wr vs1 b1 (shT (form x) y k).reverse
  got : ∀ t ∈ (form x).take k, 0 ≤ (t.2 : Int) + y
theorem SH.own {U : List Int} {w0 wr : World} {b0 b1 : WB} {vs0 vs1 : List Int} {x y : Int} {k : Nat} {v : Value} (h : SH U w0 b0 vs0 x y k v wr vs1 b1) : wr.ownsRow w0.heap.size 98 2 v (form x).length (tcells (encL vs1 (shT (form x) y k))) := by
  have := h.oi.own
  rw [List.reverse_reverse, List.length_reverse, shT_length] at this
  exact this
theorem SH.start {U : List Int} {w0 w1 : World} {b0 : WB} {vs0 : List Int} {x y : Int} {v : Value} (h : WInv w0 b0 vs0 U) (hb : Below w0.heap.size w0 w1) (hc : Cov vs0 x) (hown : w1.ownsRow w0.heap.size 98 2 v (form x).length (tcells (enc vs0 x))) :
    SH U w0 b0 vs0 x y 0 v w1 vs0 b0 where
  got := by simp
  oi := by
    have hfl := h.lt _ (.inr (.inl rfl))
    refine ⟨WStep.kept h hb, fun t ht => ?_, ?_, fun q hq => ?_, FStep.same (X := noB) (Ext.of_below (M := noB) hb) hfl (fun e => e)⟩
    · rw [List.mem_reverse, shT_zero] at ht
      exact hc t ht
    · rw [List.reverse_reverse, List.length_reverse, shT_length, shT_zero]
      exact hown
    · exact (h.fresh (own_ge hown q hq)).same (Ext.of_below (M := noB) hb) hfl (fun e => e)
theorem SH.put {U : List Int} {w0 wr w9 : World} {b0 b1 b9 : WB} {vs0 vs1 vs9 : List Int} {x y : Int} {k n g cap ix : Nat} {m : Bool} {e : Nat} (h : SH U w0 b0 vs0 x y k (.slice (some ⟨g, 0, none⟩) n cap) wr vs1 b1) (he : (form x)[k]? = some (m, e)) (h0 : 0 ≤ (e : Int) + y)
    (hoi : OI U w0 b0 vs0 (.slice (some ⟨g, 0, none⟩) n cap) w9 vs9 b9 (shT (form x) y k).reverse) (hin : (e : Int) + y ∈ vs9) (hix : ix = vs9.idxOf ((e : Int) + y)) (hk : k < (form x).length) :
    SH U w0 b0 vs0 x y (k + 1) (.slice (some ⟨g, 0, none⟩) n cap) (w9.setCell ⟨g, k * 2 + 1, none⟩ (.int .i64 (ix : Int))) vs9 b9 where
  got := fun t ht => by
    rw [take_snoc he] at ht
    rcases List.mem_append.1 ht with ht | ht
    · exact h.got t ht
    · simp at ht; subst ht; exact h0
  oi := by
    have hto : (((e : Int) + y).toNat : Int) = (e : Int) + y := by omega
    refine hoi.write ((Ext.refl (fun q => (Value.slice (some ⟨g, 0, none⟩) n cap).ownBlock = some q) w9).setCell (p := ⟨g, k * 2 + 1, none⟩) (.inl rfl) _) (.inl rfl) (fun t ht => ?_) ?_
    · rw [List.mem_reverse, shT_succ he] at ht
      rcases List.mem_or_eq_of_mem_set ht with ht | ht
      · exact hoi.emitted t (List.mem_reverse.2 ht)
      · subst ht
        simp only
        rw [hto]
        exact hin
    · have h1 := hoi.own
      rw [List.reverse_reverse, List.length_reverse, shT_length] at h1 ⊢
      have h2 := own_set h1 (b := g) rfl (j := k * 2 + 1) (by omega) (.int .i64 (ix : Int))
      have h3 : (encL vs9 (shT (form x) y k))[k]? = some (m, vs9.idxOf (e : Int)) := by unfold encL; rw [List.getElem?_map, shT_at he]; rfl
      rw [← tcells_set2 _ _ _ _ h3] at h2
      have h4 : encL vs9 (shT (form x) y (k + 1)) = (encL vs9 (shT (form x) y k)).set k (m, ix) := by
        rw [shT_succ he]
        unfold encL
        rw [List.map_set]
        simp only
        rw [hto, hix]
      rw [h4]
      exact h2
def ShOut (U : List Int) (w : World) (b : WB) (vs : List Int) (x y : Int) (e : Ending) (w' : World) : Prop :=
  ∃ vs' b', WStep U w w' b b' vs vs' ∧ FStep noB w w' b b' vs vs' ∧
    ((Whole x y ∧ ∃ a c, e = .returned (.tuple #[.slice a (form x).length c, .bool true]) ∧ w'.ownsRow w.heap.size 98 2 (.slice a (form x).length c) (form x).length (tcells (enc vs' (shl x y))) ∧ Cov vs' (shl x y) ∧
        ∀ q, (Value.slice a (form x).length c).ownBlock = some q → WFree w' b' vs' q) ∨
      (¬ Whole x y ∧ e = .returned (.tuple #[.slice none 0 0, .bool false])))
theorem ShOut.yes {U : List Int} {w w' : World} {b : WB} {vs : List Int} {x y : Int} {e : Ending} (h : ShOut U w b vs x y e w') (hw : Whole x y) : ∃ vs' b' a c, e = .returned (.tuple #[.slice a (form x).length c, .bool true]) ∧ WStep U w w' b b' vs vs' ∧ FStep noB w w' b b' vs vs' ∧
    w'.ownsRow w.heap.size 98 2 (.slice a (form x).length c) (form x).length (tcells (enc vs' (shl x y))) ∧ Cov vs' (shl x y) ∧ (∀ q, (Value.slice a (form x).length c).ownBlock = some q → WFree w' b' vs' q) ∧ (enc vs' (shl x y)).length = (form x).length := by
  obtain ⟨vs', b', h1, h2, ⟨_, a, c, h3, h4, h5, h6⟩ | ⟨h3, _⟩⟩ := h
  · exact ⟨vs', b', a, c, h3, h1, h2, h4, h5, h6, by rw [← encL_form, form_shl hw]; simp [encL, shlL]⟩
  · exact absurd hw h3
theorem ShOut.no {U : List Int} {w w' : World} {b : WB} {vs : List Int} {x y : Int} {e : Ending} (h : ShOut U w b vs x y e w') (hw : ¬ Whole x y) : e = .returned (.tuple #[.slice none 0 0, .bool false]) ∧ ∃ vs' b', WStep U w w' b b' vs vs' := by
  obtain ⟨vs', b', h1, h2, ⟨h3, _⟩ | ⟨h3, h4⟩⟩ := h
  · exact absurd h3 hw
  · exact ⟨h4, vs', b', h1⟩
theorem shl_enc {vs : List Int} {x y : Int} (h : ∀ t ∈ form x, 0 ≤ (t.2 : Int) + y) : Whole x y ∧ encL vs (shT (form x) y (form x).length) = enc vs (shl x y) := by
  have hw : Whole x y := h
  refine ⟨hw, ?_⟩
  rw [shT_all, ← encL_form, form_shl hw]
  rfl
theorem sum_two' {w5 W6 w7 : World} {b2 : WB} {vs2 U : List Int} {x y : Int} {a7 : Option Addr} {c7 : Nat} (hinv : WInv w5 b2 vs2 U) (bd : Below w5.heap.size w5 W6) (hb7 : Below W6.heap.size W6 w7)
    (hown : w7.ownsRow W6.heap.size 98 2 (.slice a7 ((enc vs2 x).length + (enc vs2 y).length) c7) ((enc vs2 x).length + (enc vs2 y).length) (tcells (enc vs2 x ++ enc vs2 y)))
    (hlx : (enc vs2 x).length ≤ 300) (hly : (enc vs2 y).length ≤ 300) (hx : x ∈ vs2) (hy : y ∈ vs2) (hN : ∀ p, SumAt (form x ++ form y) p → NextIn U p) :
    Calls Try.prog 73 #[.pointer (some ⟨b2.p, 0, none⟩), .slice a7 ((enc vs2 x).length + (enc vs2 y).length) c7] w7 (FormOut U w7 b2 vs2 (x + y)) := by
  have b57 : Below w5.heap.size w5 w7 := bd.trans ⟨hb7.os, hb7.tape, hb7.output, hb7.size, fun k hk => hb7.block k (by have := bd.size; omega)⟩
  have e1 : enc vs2 x ++ enc vs2 y = encL vs2 (form x ++ form y) := by simp [enc, encL]
  have e2 : (enc vs2 x).length + (enc vs2 y).length = (encL vs2 (form x ++ form y)).length := by rw [← e1]; simp
  have hl : TL w7 (.slice a7 ((enc vs2 x).length + (enc vs2 y).length) c7) (encL vs2 (form x ++ form y)) := TL.of_own (by rw [← e2, ← e1]; exact hown) (by omega)
  have hs := sum_any (hinv.below b57) hl (by have : (encL vs2 (form x ++ form y)).length = (form x ++ form y).length := by simp [encL]
                                             omega) (fun t ht => by
      rcases List.mem_append.1 ht with h | h
      · exact hinv.cl.cov hx t h
      · exact hinv.cl.cov hy t h) (fun k hk hM => by have h1 := own_ge hown k hk; have h2 := hinv.lt k hM; have := bd.size; omega) (fun p hp => next_any (hN p hp))
  refine hs.mono ?_
  intro e w' hq
  have ev : val (form x ++ form y) = x + y := by rw [val_append, val_form, val_form]
  rw [ev] at hq
  exact hq
end Go.Proofs.Ytgchfbfgjanaiaa
