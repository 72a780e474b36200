/-
  num.Of
  (num.N).Int
  (turn.way).behind, where the number is less than the length; turn.After
  turn.Recur, at the one call that awake makes: Fibonacci's numbers modulo 60
  turn.Recur, at the one call that awake makes
-/
import Derived.Test.YthmagdibjbadaaaJ23
import Derived.Test.YthmagdibjbadaaaJ22
import Derived.Deep.RegionHeld3
import Derived.Laws.OwnMore
import Derived.Test.YthmagdibjbadaaaJ20
import Derived.Laws.CopyOwn
set_option linter.unusedSimpArgs false
set_option linter.unusedVariables false
namespace Go.Proofs.Ythmagdibjbadaaa
open Go.RowKit Sr

theorem below_st' {n : Nat} {w W : World} (h : Below n w W) (o : Obj) (hn : n ≤ w.heap.size := by exact Nat.le_refl _) : Below n w (W.alloc o) := h.alloc (Nat.le_trans hn h.size) o
theorem below_mono' {n k : Nat} {w W : World} (h : Below k w W) (hn : n ≤ k) : Below n w W := ⟨h.os, h.tape, h.output, h.size, fun q hq => h.block q (by omega)⟩

theorem NumIs.agg {w : World} {u : Value} {x : Int} (h : NumIs w u x) : ∃ p, u = .agg #[.pointer p] := by
  rcases h.2 with ⟨_, h⟩ | ⟨_, k, h, _⟩
  · exact ⟨none, h⟩
  · exact ⟨_, h⟩

set_option maxRecDepth 100000 in
set_option maxHeartbeats 4000000 in
theorem of_num {w : World} {n : Int} (h1 : -9223372036854775808 ≤ n) (h2 : n ≤ 9223372036854775807) :
    Calls Try.prog 13 #[.int .i64 n] w fun e w' => ∃ u, e = .returned u ∧ NumIs w' u n ∧ Below w.heap.size w w' := by
  have hnw := newWorld_any (w := w.alloc (.cells #[.pointer none] 50)) (U := few) (few_mem 0 (by omega)) few_length
  have HNW := Sealed.mk hnw; clear hnw
  have hN : n.natAbs ≤ 2 ^ 63 := by omega
  have hof := fun w b vs => of_any (U := few) few_mem _ (Nat.lt_succ_self n.natAbs) hN (decide (n < 0)) (w := w) (b := b) (vs := vs)
  have hs : sgn (decide (n < 0)) n.natAbs = n := by
    unfold sgn
    by_cases h : n < 0
    · simp [h]; omega
    · simp [h]; omega
  rw [hs] at hof
  have HOF := Sealed.mk hof; clear hof
  have hAll := allowed_small hN
  have HALL := Sealed.mk hAll; clear hAll
  obtain ⟨w0, hw0⟩ : ∃ w0, w0 = w.alloc (.cells #[.pointer none] 50) := ⟨_, rfl⟩
  have hfin : ∀ {w1 w4 w5 : World} {b1 b4 : WB} {vs4 : List Int} {e5 : Ending}, Below w0.heap.size w0 w1 → (∀ k, b1.M k → w0.heap.size ≤ k) → WStep few w1 w4 b1 b4 [0] vs4 → GiveOut few w4 b4 vs4 n e5 w5 →
      ∃ p, e5 = .returned (.tuple #[.agg #[.pointer p], .int .i64 0]) ∧ NumIs w5 (.agg #[.pointer p]) n ∧ Below w0.heap.size w0 w5 := by
    intro w1 w4 w5 b1 b4 vs4 e5 hb1 hM hst hg
    obtain ⟨g1, g2, u, g3⟩ := hg
    rcases g3 with ⟨_, rfl, hn⟩ | ⟨hna, _⟩
    · obtain ⟨p, rfl⟩ := hn.agg
      have e1 : Ext (fun k => w0.heap.size ≤ k) w0 w1 := ⟨hb1.os, hb1.tape, hb1.output, hb1.size, fun k hk hn => hb1.block k (Nat.lt_of_not_le hn)⟩
      have e2 := e1.trans hst.ext fun k hk => .inl (hM k hk)
      have e3 := e2.trans g2 fun k hk => by
        have := hst.news k (by rw [hk]; exact .inr (.inr (.inr (.inr rfl))))
        rcases this with h | h
        · exact .inl (hM k h)
        · exact .inl (by have := e1.size; show w0.heap.size ≤ k; omega)
      exact ⟨p, rfl, hn, e3.os, e3.tape, e3.output, e3.size, fun k hk => e3.block k hk (by show ¬ (w0.heap.size ≤ k); omega)⟩
    · exact absurd HALL.out hna
  rw [hw0] at hfin
  have HF := Sealed.mk @hfin; clear hfin
  have hend : ∀ {w5 : World} {p5 : Option Addr}, NumIs w5 (.agg #[.pointer p5]) n → Below (w.alloc (.cells #[.pointer none] 50)).heap.size (w.alloc (.cells #[.pointer none] 50)) w5 → w5.heap[w.heap.size]? = some (.cells #[.pointer none] 50 (0, 0)) →
      NumIs ((w5.alloc (.cells #[.pointer p5] 50)).setCell ⟨w.heap.size, 0, none⟩ (.pointer p5)) (.agg #[.pointer p5]) n ∧ Below w.heap.size w ((w5.alloc (.cells #[.pointer p5] 50)).setCell ⟨w.heap.size, 0, none⟩ (.pointer p5)) ∧
      ((w5.alloc (.cells #[.pointer p5] 50)).setCell ⟨w.heap.size, 0, none⟩ (.pointer p5)).cell? ⟨w.heap.size, 0, none⟩ = some (.pointer p5) := by
    intro w5 p5 h1 h2 h3
    have h4 := blk_alloc_old h3 (.cells #[.pointer p5] 50)
    refine ⟨(h1.below (below_st' (Below.refl _ _) _)).other h4 ((Ext.refl (fun k => k = w.heap.size) _).setCell (p := ⟨w.heap.size, 0, none⟩) (.inl rfl) _), ?_, ?_⟩
    · have b0 : Below w.heap.size w (w.alloc (.cells #[.pointer none] 50))   := below_st' (Below.refl _ _) _
      have b1 := b0.trans (below_mono' h2 b0.size)
      exact (below_st' b1 _).setCell (Nat.le_refl _) _
    · rw [cell_of_blk (blk_setCell h4 0 _)]; rfl
  have HEND := Sealed.mk @hend; clear hend
  by_cases hneg : n < 0
  · have hd : decide (n < 0) = true := by simp [hneg]
    rw [hd] at HOF
    have hw1 : IntKind.u64.wrap n = n + 18446744073709551616 := by rw [IntKind.wrap_u64]; omega
    have hw2 : IntKind.u64.wrap (-(n + 18446744073709551616)) = (n.natAbs : Int) := by rw [IntKind.wrap_u64]; omega
    have HH := Sealed.mk (And.intro h1 (And.intro h2 hN)); clear h1 h2 hN hs hd
    go_enter Try.func13, Try.ntmps13
    clear hw0
    go_wp2_with (first
      | (go_at_call 22; go_must (refine HNW.out.mono ?_; rintro e w1 ⟨b1, rfl, hi1, hb1, hm1⟩))
      | (go_at_call 24; go_must (refine (HOF.out _ _ _ hi1).mono ?_; rintro e w4 ⟨vs4, b4, a4, c4, rfl, hown4, hl4, hc4, hst4, hfs4, hm4⟩; have hg4 := give_any hst4.inv (TL.of_own hown4 hl4) hc4; rw [hst4.p] at hg4; have HG4 := Sealed.mk hg4; clear hg4))
      | (go_at_call 23; go_must (refine HG4.out.mono ?_; intro e w5 hg5; obtain ⟨p5, rfl, hnum5, hb5⟩ := HF.out hb1 hm1 hst4 hg5; have x5 := (hb5.block w.heap.size (by simp)).trans (blk_alloc w _); have c5 : ∀ o, (w5.alloc o).cell? ⟨w.heap.size, 0, none⟩ = some (.pointer none) := fun o => (cell_of_blk (blk_alloc_old x5 o) 0).trans rfl; have f5 : ∀ o, (w5.alloc o).frozen? ⟨w.heap.size, 0, none⟩ = false := fun o => frozen_of_blk (blk_alloc_old x5 o) 0; have H5 := Sealed.mk (And.intro hnum5 (And.intro hb5 x5)); clear hnum5 hb5 x5 hg5 hi1 hb1 hm1 hown4 hl4 hc4 hst4 hfs4 hm4)))
    have z := (HEND.out H5.out.1 H5.out.2.1 H5.out.2.2).2.2
    refine bodyPost_ret (v := .agg #[.pointer p5]) (by simp [results, Try.results13, go_sem, z]) rfl ⟨_, rfl, (HEND.out H5.out.1 H5.out.2.1 H5.out.2.2).1, (HEND.out H5.out.1 H5.out.2.1 H5.out.2.2).2.1⟩
  · have hd : decide (n < 0) = false := by simp; omega
    rw [hd] at HOF
    obtain ⟨nn, rfl⟩ := Int.eq_ofNat_of_zero_le (show 0 ≤ n by omega)
    have hof2 := HOF.out
    simp only [Int.natAbs_natCast] at hof2
    have HOF2 := Sealed.mk hof2; clear hof2 HOF
    have hw1 : IntKind.u64.wrap (nn : Int) = (nn : Int) := by rw [IntKind.wrap_u64]; omega
    have HH := Sealed.mk (And.intro h1 (And.intro h2 hN)); clear h1 h2 hN hs hd hneg
    go_enter Try.func13, Try.ntmps13
    clear hw0
    go_wp2_with (first
      | (go_at_call 22; go_must (refine HNW.out.mono ?_; rintro e w1 ⟨b1, rfl, hi1, hb1, hm1⟩))
      | (go_at_call 24; go_must (refine (HOF2.out _ _ _ hi1).mono ?_; rintro e w4 ⟨vs4, b4, a4, c4, rfl, hown4, hl4, hc4, hst4, hfs4, hm4⟩; have hg4 := give_any hst4.inv (TL.of_own hown4 hl4) hc4; rw [hst4.p] at hg4; have HG4 := Sealed.mk hg4; clear hg4))
      | (go_at_call 23; go_must (refine HG4.out.mono ?_; intro e w5 hg5; obtain ⟨p5, rfl, hnum5, hb5⟩ := HF.out hb1 hm1 hst4 hg5; have x5 := (hb5.block w.heap.size (by simp)).trans (blk_alloc w _); have c5 : ∀ o, (w5.alloc o).cell? ⟨w.heap.size, 0, none⟩ = some (.pointer none) := fun o => (cell_of_blk (blk_alloc_old x5 o) 0).trans rfl; have f5 : ∀ o, (w5.alloc o).frozen? ⟨w.heap.size, 0, none⟩ = false := fun o => frozen_of_blk (blk_alloc_old x5 o) 0; have H5 := Sealed.mk (And.intro hnum5 (And.intro hb5 x5)); clear hnum5 hb5 x5 hg5 hi1 hb1 hm1 hown4 hl4 hc4 hst4 hfs4 hm4)))
    have z := (HEND.out H5.out.1 H5.out.2.1 H5.out.2.2).2.2
    refine bodyPost_ret (v := .agg #[.pointer p5]) (by simp [results, Try.results13, go_sem, z]) rfl ⟨_, rfl, (HEND.out H5.out.1 H5.out.2.1 H5.out.2.2).1, (HEND.out H5.out.1 H5.out.2.1 H5.out.2.2).2.1⟩

end Go.Proofs.Ythmagdibjbadaaa

namespace Go.Proofs.Ythmagdibjbadaaa
open Go.RowKit Sr

theorem el_int64 : ElemT Try.prog 88 2 1 (.int .i64 0) 8 := ⟨Try.underlying88, by kernel_rfl, rfl, by decide, by decide⟩

theorem made_zero64 (n i : Nat) (h : i < n) : (madeCells #[Value.int .i64 0] n)[i]? = some (.int .i64 0) := by
  have e : (madeCells #[Value.int .i64 0] n)[i]? = (madeCells #[Value.int .i64 0] n).toList[i]? := by simp
  rw [e, toList_madeCells_one]
  simp [h]

/-- what Int answers -/
def toI64 (x : Int) : Value := .tuple #[.int .i64 (if Is64 x then x else 0), .bool (decide (Is64 x))]

/-- what Int's loop holds -/
structure IT (w0 W : World) (x : Int) (p : Option Addr) (bv vb np k : Nat) : Prop where
  uc : W.cell? ⟨w0.heap.size, 0, none⟩ = some (.pointer p)
  below : Below w0.heap.size w0 W
  var : W.heap[bv]? = some (.cells #[.slice (some ⟨vb, 0, none⟩) np np] 88 (0, 0))
  tab : ∃ cs : Array Value, W.heap[vb]? = some (.cells cs 2 (0, 0)) ∧ cs.size = np ∧ ∀ (i e : Nat), i < k → (plist x)[i]? = some e → cs[i]? = some (.int .i64 (val64 (e : Int)))
  new : w0.heap.size < bv ∧ w0.heap.size < vb ∧ bv ≠ vb

theorem IT.keep {w0 W W' : World} {x : Int} {p : Option Addr} {bv vb np k : Nat} (h : IT w0 W x p bv vb np k) (hb : Below W.heap.size W W') : IT w0 W' x p bv vb np k := by
  obtain ⟨cs, q1, q2, q3⟩ := h.tab
  exact ⟨(cell_same (hb.block _ (lt_of_cell h.uc)) 0).trans h.uc, h.below.trans (below_mono' hb h.below.size), (hb.block _ (lt_of_blk h.var)).trans h.var, ⟨cs, (hb.block _ (lt_of_blk q1)).trans q1, q2, q3⟩, h.new⟩

/-- what the closure asks of the table -/
theorem IT.vals {w0 W : World} {x : Int} {p : Option Addr} {bv vb k : Nat} (h : IT w0 W x p bv vb (plist x).length k) {y : Int} (hy : ∀ f ∈ exps y, f ∈ (plist x).take k) : W.cell? ⟨bv, 0, none⟩ = some (.slice (some ⟨vb, 0, none⟩) (plist x).length (plist x).length) ∧
    ∀ f ∈ exps y, (pvs x).idxOf (f : Int) < (plist x).length ∧ W.cell? ⟨vb, (pvs x).idxOf (f : Int), none⟩ = some (.int .i64 (val64 (f : Int))) := by
  refine ⟨(cell_of_blk h.var 0).trans rfl, fun f hf => ?_⟩
  obtain ⟨cs, h1, h2, h3⟩ := h.tab
  have hm := hy f hf
  have hm2 : f ∈ plist x := List.mem_of_mem_take hm
  have hi := List.idxOf_lt_length_of_mem hm
  rw [idxOf_take hm] at hi
  have hi' := List.idxOf_lt_length_of_mem hm2
  rw [pvs_idxOf]
  refine ⟨hi', (cell_of_blk h1 _).trans (h3 _ f (by simp at hi; omega) ?_)⟩
  rw [List.getElem?_eq_getElem hi']
  simp

set_option maxRecDepth 100000 in
set_option maxHeartbeats 4000000 in
theorem Int_any {w : World} {u : Value} {x : Int} (h : NumIs w u x) : Calls Try.prog 29 #[u] w fun e w' => e = .returned (toI64 x) ∧ Below w.heap.size w w' := by
  obtain ⟨p, hp⟩ : ∃ p, u = .agg #[.pointer p] := by
    rcases h.2 with ⟨_, h⟩ | ⟨_, k, h, _⟩
    · exact ⟨none, h⟩
    · exact ⟨_, h⟩
  subst hp
  obtain ⟨np, hnp⟩ : ∃ np, np = (plist x).length := ⟨_, rfl⟩
  have hnpb : np ≤ 2000 := by have := h.1.2.2.1; unfold weight at this; omega
  have hpa := fun W (hb : Below w.heap.size w W) => parts_at h hb
  have hsa := fun W (hb : Below w.heap.size w W) => self_at h hb
  have hmk := fun W => run_mk el_int64 np (by omega) W
  obtain ⟨W1, hW1⟩ : ∃ W1, W1 = w.alloc (.cells #[.pointer p] 50) := ⟨_, rfl⟩
  have b1 : Below w.heap.size w W1 := by rw [hW1]; exact (Below.refl _ _).alloc (Nat.le_refl _) _
  have x1 : W1.heap[w.heap.size]? = some (.cells #[.pointer p] 50 (0, 0)) := by rw [hW1]; exact blk_alloc _ _
  have hpa1 := hpa W1 b1
  rw [hW1] at hpa1
  have HPA := Sealed.mk (And.intro hpa (And.intro hsa hpa1)); clear hpa hsa hpa1
  have H := Sealed.mk (And.intro h hnp); clear h hnp
  have HX1 := Sealed.mk (And.intro hW1 (And.intro b1 x1)); clear hW1 b1 x1
  go_enter Try.func29, Try.ntmps29
  go_upto_region 3 with (go_at_call 38; go_must (refine HPA.out.2.2.mono ?_; rintro e w2 ⟨v2, rfl, hp2, hb2⟩; obtain ⟨f2, a2, c2, rfl, r2, r3⟩ := hp2; rw [← H.out.2]; have HB2 := Sealed.mk hb2; clear hb2 f2 r2 r3))
  obtain ⟨W0, hW0⟩ : ∃ W0, W0 = (w2.alloc (.cells (madeCells #[.int .i64 0] np) 2)).alloc (.cells #[.slice (some ⟨w2.heap.size, 0, none⟩) np np] 88) := ⟨_, rfl⟩
  have b2 : Below w.heap.size w w2 := by
    have hb := HB2.out
    rw [← HX1.out.1] at hb
    exact HX1.out.2.1.trans (below_mono' hb HX1.out.2.1.size)
  have x0 : W0.cell? ⟨w.heap.size, 0, none⟩ = some (.pointer p) := by
    have hb := HB2.out
    have y2 := (hb.block w.heap.size (by simp)).trans (blk_alloc w _)
    have y0 := blk_alloc_old (blk_alloc_old y2 (.cells (madeCells #[.int .i64 0] np) 2)) (.cells #[.slice (some ⟨w2.heap.size, 0, none⟩) np np] 88)
    rw [← hW0] at y0
    exact (cell_of_blk y0 0).trans rfl
  have hi0 : IT w W0 x p (w2.heap.size + 1) w2.heap.size np 0 := by
    have c0 := blk_alloc w2 (.cells (madeCells #[.int .i64 0] np) 2)
    have c1 := blk_alloc (w2.alloc (.cells (madeCells #[.int .i64 0] np) 2)) (.cells #[.slice (some ⟨w2.heap.size, 0, none⟩) np np] 88)
    have e : (w2.alloc (.cells (madeCells #[.int .i64 0] np) 2)).heap.size = w2.heap.size + 1 := by simp
    rw [e, ← hW0] at c1
    have c0' := blk_alloc_old c0 (.cells #[.slice (some ⟨w2.heap.size, 0, none⟩) np np] 88)
    rw [← hW0] at c0'
    have hsz : w.heap.size + 1 ≤ w2.heap.size := by have := HB2.out.size; simp at this; omega
    exact ⟨x0, by rw [hW0]; exact below_st' (below_st' b2 _) _, c1, ⟨_, c0', by simp [size_madeCells], fun i e h => by omega⟩, by omega, by omega, by omega⟩
  have hp0 := HPA.out.1 W0 hi0.below
  have HP0 := Sealed.mk hp0; clear hp0
  have HI0 := Sealed.mk hi0; clear hi0
  rw [← hW0]
  have HW0 := Sealed.mk (And.intro hW0 b2); clear hW0 b2
  go_wp2_with (go_at_call 38; go_must (refine HP0.out.mono ?_; rintro e w3 ⟨v3, rfl, hp3, hb3⟩; have HP3 := Sealed.mk (And.intro hp3 hb3); obtain ⟨f3, a3, c3, rfl, r3, r3'⟩ := hp3; rw [← H.out.2] at r3 HP3 ⊢; clear f3 r3' hb3))
  go_loopg [18] np (fun j iv W => ∃ k : Nat, j = np - k ∧ k ≤ np ∧ iv = .int .i64 (k : Int) ∧ IT w W x p (w2.heap.size + 1) w2.heap.size np k)
  case atStart =>
    refine ⟨0, rfl, Nat.zero_le _, rfl, ?_⟩
    have hI := HI0.out
    have hb3 := HP3.out.2
    obtain ⟨cs, q1, q2, q3⟩ := hI.tab
    exact ⟨(cell_same (hb3.block _ (lt_of_cell hI.uc)) 0).trans hI.uc, hI.below.trans (below_mono' hb3 hI.below.size), (hb3.block _ (lt_of_blk hI.var)).trans hI.var, ⟨cs, (hb3.block _ (lt_of_blk q1)).trans q1, q2, q3⟩, hI.new⟩
  case round =>
    obtain ⟨k, rfl, hk, rfl, hI⟩ := hrel
    by_cases hkn : k < np
    · obtain ⟨e, he⟩ : ∃ e, (plist x)[k]? = some e := ⟨_, List.getElem?_eq_getElem (by have := H.out.2; omega)⟩
      obtain ⟨-, a', c', hv3, -, hr3⟩ := HP3.out.1
      obtain ⟨b, o, ha, hcell⟩ := hr3 (fun hh => by rw [hh] at he; simp at he)
      obtain ⟨hva, -, -⟩ := Value.slice.inj hv3
      rw [← hva] at ha
      subst ha
      obtain ⟨uk, hu1, hu2⟩ := hcell k e he
      obtain ⟨ua, un, ucp, rfl⟩ := hu2.slice
      have g0 : wr.cell? ⟨b, o + k, none⟩ = some (.slice ua un ucp) := (cell_same (hI.below.block b (lt_of_cell hu1)) _).trans hu1
      have hex : ∀ f ∈ exps (e : Int), f ∈ (plist x).take k := fun f hf => part_ahead he hf
      have hI' := hI
      rw [H.out.2] at hI'
      have hvl := hI'.vals hex
      rw [← H.out.2] at hvl
      have hic := intC_any (w := wr.drew) ((hu2.below hI.below).ext ((Ext.refl noB wr).drew) fun _ _ h => h) (bv := w2.heap.size + 1) (vb := w2.heap.size) (np := np) hvl.1 hvl.2
      obtain ⟨cs, q1, q2, q3⟩ := hI.tab
      have g1 : wr.drew.cell? ⟨w2.heap.size + 1, 0, none⟩ = some (.slice (some ⟨w2.heap.size, 0, none⟩) np np) := hvl.1
      have hkc : ∃ v, cs[k]? = some v := ⟨_, Array.getElem?_eq_getElem (by omega)⟩
      obtain ⟨vk, hvk⟩ := hkc
      obtain ⟨ve, hve⟩ : ∃ ve, ve = val64 (e : Int) := ⟨_, rfl⟩
      rw [← hve] at hic
      have HC := Sealed.mk hic; clear hic
      have HI := Sealed.mk (And.intro hI (And.intro q1 (And.intro q2 (And.intro q3 (And.intro hvk (And.intro he hve)))))); clear hI hI' q1 q2 q3 hvk he hve hvl hex hu1 hu2 hcell hr3 hv3 hva
      have HG1 := Sealed.mk g1
      go_upto_region 6 with fail
      go_region_held3 (fun w' => w'.cell? ⟨w2.heap.size + 1, 0, none⟩ = some (.slice (some ⟨w2.heap.size, 0, none⟩) np np))
        (first | exact HG1.out | exact HG5.out | exact HG6.out _ _)
        (first | (go_at_call 39; go_must (refine HC.out.mono ?_; rintro e' w5 ⟨rfl, hb5⟩; have hy5 := (hb5.block _ (lt_of_blk HI.out.1.var)).trans HI.out.1.var; have HG5 := Sealed.mk ((cell_of_blk hy5 0).trans rfl : w5.cell? ⟨w2.heap.size + 1, 0, none⟩ = some (.slice (some ⟨w2.heap.size, 0, none⟩) np np)); have HG6 : Sealed (∀ (j : Nat) (v : Value), (w5.setCell ⟨w2.heap.size, j, none⟩ v).cell? ⟨w2.heap.size + 1, 0, none⟩ = some (.slice (some ⟨w2.heap.size, 0, none⟩) np np)) := ⟨fun j v => (cell_same (((Ext.refl (fun q => q = w2.heap.size) w5).setCell (p := ⟨w2.heap.size, j, none⟩) (.inl rfl) v).block _ (lt_of_blk hy5) (by omega)) 0).trans HG5.out⟩; have hz5 := (hb5.block _ (lt_of_blk HI.out.2.1)).trans HI.out.2.1; have g7 : w5.cell? ⟨w2.heap.size, k, none⟩ = some vk := (cell_of_blk hz5 k).trans HI.out.2.2.2.2.1; have g8 : w5.frozen? ⟨w2.heap.size, k, none⟩ = false := frozen_of_blk hz5 k; have H5 := Sealed.mk (And.intro hb5 (And.intro hy5 hz5)); clear hb5 hy5 hz5)))
      go_wp2_with fail
      go_roundg (np - (k + 1))
      case measure => omega
      case rel =>
        refine ⟨k + 1, rfl, by omega, by push_cast; rfl, ?_⟩
        obtain ⟨hb5, hy5, hz5⟩ := H5.out
        obtain ⟨hI, q1, q2, q3, hvk, he, hve⟩ := HI.out
        have e6 : Ext (fun q => q = w2.heap.size) w5 (w5.setCell ⟨w2.heap.size, k, none⟩ (.int .i64 ve)) := (Ext.refl (fun q => q = w2.heap.size) w5).setCell (p := ⟨w2.heap.size, k, none⟩) (.inl rfl) _
        have hsz : wr.heap.size ≤ w5.heap.size := hb5.size
        have hnew := hI.new
        refine ⟨?_, ?_, ?_, ⟨cs.setIfInBounds k (.int .i64 ve), by rw [blk_setCell hz5 k _], by simp [q2], fun i f hi hf => ?_⟩, hnew⟩
        · exact (cell_same (e6.block _ (by have := lt_of_cell hI.uc; omega) (by omega)) 0).trans ((cell_same (hb5.block _ (lt_of_cell hI.uc)) 0).trans hI.uc)
        · have hs := hI.below.size
          exact ⟨e6.os.trans (hb5.os.trans hI.below.os), e6.tape.trans (hb5.tape.trans hI.below.tape), e6.output.trans (hb5.output.trans hI.below.output), Nat.le_trans hs (Nat.le_trans hsz e6.size), fun q hq => (e6.block q (by omega) (by omega)).trans ((hb5.block q (by show q < wr.heap.size; omega)).trans (hI.below.block q hq))⟩
        · exact e6.get hy5 (by omega)
        · rw [Array.getElem?_setIfInBounds]
          by_cases hik : k = i
          · subst hik
            rw [he] at hf
            obtain rfl := Option.some.inj hf
            rw [if_pos rfl, if_pos (by omega), hve]
          · rw [if_neg hik]
            exact q3 i f (by omega) hf
    · have hkk : k = np := by omega
      have htk : (plist x).take k = plist x := by rw [hkk, H.out.2, List.take_length]
      have u0 := hI.uc
      have hs := HPA.out.2.1 wr hI.below
      have hcl : ∀ (w5 : World) (v : Value), Below wr.heap.size wr w5 → TL w v (enc (pvs x) x) → Calls Try.prog 39 #[v, .pointer (some ⟨w2.heap.size + 1, 0, none⟩)] w5 fun e w' => e = .returned (.tuple #[.int .i64 (val64 x), .bool (decide (Is64 x))]) ∧ Below w5.heap.size w5 w' := fun w5 v hb hl => by
        have hI5 := hI.keep hb
        have hI' := hI5
        rw [H.out.2] at hI'
        have hvl := hI'.vals (y := x) fun f hf => by rw [htk]; exact mem_plist.2 (.here hf)
        rw [← H.out.2] at hvl
        exact intC_any (hl.below hI5.below) hvl.1 hvl.2
      have HS := Sealed.mk hs; clear hs
      have HCL := Sealed.mk hcl; clear hcl
      have HI := Sealed.mk hI; clear hI
      clear hkk htk
      by_cases h6 : Is64 x
      · have hv : val64 x = x := by unfold val64; rw [if_pos h6]
        have hd : decide (Is64 x) = true := by simp [h6]
        have HCL2 := HCL.out
        rw [hv, hd] at HCL2
        have HCL3 := Sealed.mk HCL2; clear HCL2 HCL
        have H6 := Sealed.mk h6; clear h6 hv hd
        go_wp2_with (first
          | (go_at_call 28; go_must (refine HS.out.mono ?_; rintro e w5 ⟨v5, rfl, hl5, hb5⟩; have HC5 := Sealed.mk (HCL3.out w5 v5 hb5 hl5); have HB5 := Sealed.mk hb5; clear hl5 hb5))
          | (go_at_call 39; go_must (refine HC5.out.mono ?_; rintro e w6 ⟨rfl, hb6⟩)))
        refine bodyPost_ret (v := .tuple #[.int .i64 x, .bool true]) (by simp [results, Try.results29, go_sem]) rfl ⟨?_, ?_⟩
        · unfold toI64; rw [if_pos H6.out, decide_eq_true H6.out]
        · have hI := HI.out.keep HB5.out
          exact hI.below.trans (below_mono' hb6 hI.below.size)
      · have hd : decide (Is64 x) = false := by simp [h6]
        have HCL2 := HCL.out
        rw [hd] at HCL2
        have HCL3 := Sealed.mk HCL2; clear HCL2 HCL
        have H6 := Sealed.mk h6; clear h6 hd
        go_wp2_with (first
          | (go_at_call 28; go_must (refine HS.out.mono ?_; rintro e w5 ⟨v5, rfl, hl5, hb5⟩; have HC5 := Sealed.mk (HCL3.out w5 v5 hb5 hl5); have HB5 := Sealed.mk hb5; clear hl5 hb5))
          | (go_at_call 39; go_must (refine HC5.out.mono ?_; rintro e w6 ⟨rfl, hb6⟩)))
        refine bodyPost_ret (v := .tuple #[.int .i64 0, .bool false]) (by simp [results, Try.results29, go_sem]) rfl ⟨?_, ?_⟩
        · unfold toI64; rw [if_neg H6.out, decide_eq_false H6.out]
        · have hI := HI.out.keep HB5.out
          exact hI.below.trans (below_mono' hb6 hI.below.size)

end Go.Proofs.Ythmagdibjbadaaa

namespace Go.Proofs.Ythmagdibjbadaaa
open Go.RowKit Sr

theorem below_chain {w a b : World} (h : Below w.heap.size w a) (k : Below a.heap.size a b) : Below w.heap.size w b := h.trans (below_mono' k h.size)

set_option maxRecDepth 100000 in
set_option maxHeartbeats 4000000 in
theorem behind_any {w : World} {a : Option Addr} {c lead i B : Nat} {L : List St} {s : St} {u : Value} (hown : w.ownsRow B 26 3 (.slice a L.length c) L.length (scells L)) (hL : L.length ≤ 216000) (hi : L[i]? = some s) (hu : NumIs w u (i : Int)) :
    Calls Try.prog 21 #[.agg #[.slice a L.length c, .int .i64 (lead : Int)], u] w fun e w' => e = .returned (stv s) ∧ Below w.heap.size w w' := by
  have hil := (List.getElem?_eq_some_iff.1 hi).1
  obtain ⟨p, rfl⟩ := hu.agg
  obtain ⟨g, cap, e1⟩ := own_form hown (by omega)
  obtain ⟨rfl, -, rfl⟩ := Value.slice.inj e1
  obtain ⟨q0, q1, q2⟩ := scells_at L i s hi
  have k0 := own_cell hown (b := g) rfl q0
  have k1 := own_cell hown (b := g) rfl q1
  have k2 := own_cell hown (b := g) rfl q2
  obtain ⟨n, hn⟩ : ∃ n, n = L.length := ⟨_, rfl⟩
  rw [← hn] at hil hL ⊢
  clear q0 q1 q2 e1 hown hi hn
  obtain ⟨s1, s2, s3⟩ := s
  simp only at k0 k1 k2
  obtain ⟨W3, hW3⟩ : ∃ W3, W3 = ((w.alloc (.cells #[.slice (some ⟨g, 0, none⟩) n c, .int .i64 (lead : Int)] 43)).alloc (.cells #[.pointer p] 50)).alloc (.cells #[.int .i64 0, .int .i64 0, .int .i64 0] 26) := ⟨_, rfl⟩
  have b3 : Below w.heap.size w W3 := by
    rw [hW3]
    repeat (first | exact Below.refl _ _ | refine below_st' ?_ _)
  have x1 := blk_alloc w (.cells #[.slice (some ⟨g, 0, none⟩) n c, .int .i64 (lead : Int)] 43)
  have x1' := blk_alloc_old (blk_alloc_old x1 (.cells #[.pointer p] 50)) (.cells #[.int .i64 0, .int .i64 0, .int .i64 0] 26)
  have x3 := blk_alloc ((w.alloc (.cells #[.slice (some ⟨g, 0, none⟩) n c, .int .i64 (lead : Int)] 43)).alloc (.cells #[.pointer p] 50)) (.cells #[.int .i64 0, .int .i64 0, .int .i64 0] 26)
  have e3 : ((w.alloc (.cells #[.slice (some ⟨g, 0, none⟩) n c, .int .i64 (lead : Int)] 43)).alloc (.cells #[.pointer p] 50)).heap.size = w.heap.size + 1 + 1 := by simp
  rw [e3] at x3
  rw [← hW3] at x1' x3
  have hint := Int_any (hu.below b3)
  have h64 : Is64 (i : Int) := by unfold Is64; omega
  have ht : toI64 (i : Int) = .tuple #[.int .i64 (i : Int), .bool true] := by unfold toI64; rw [if_pos h64, decide_eq_true h64]
  rw [ht, hW3] at hint
  have HI := Sealed.mk hint; clear hint ht h64
  have HF : Sealed (∀ w5, Below W3.heap.size W3 w5 → Below w.heap.size w w5 ∧ w5.heap[w.heap.size + 1 + 1]? = some (.cells #[.int .i64 0, .int .i64 0, .int .i64 0] 26 (0, 0)) ∧ w5.cell? ⟨w.heap.size, 0, none⟩ = some (.slice (some ⟨g, 0, none⟩) n c) ∧
      w5.cell? ⟨g, i * 3, none⟩ = some (.int .i64 s1) ∧ w5.cell? ⟨g, i * 3 + 1, none⟩ = some (.int .i64 s2) ∧ w5.cell? ⟨g, i * 3 + 2, none⟩ = some (.int .i64 s3)) := ⟨fun w5 hb => by
    have hb5 := below_chain b3 hb
    refine ⟨hb5, (hb.block _ (lt_of_blk x3)).trans x3, (cell_of_blk ((hb.block _ (lt_of_blk x1')).trans x1') 0).trans rfl, ?_, ?_, ?_⟩
    · exact (cell_same (hb5.block g (lt_of_cell k0)) _).trans k0
    · exact (cell_same (hb5.block g (lt_of_cell k0)) _).trans k1
    · exact (cell_same (hb5.block g (lt_of_cell k0)) _).trans k2⟩
  have HW3 := Sealed.mk hW3; clear hW3 b3 x1 x1' x3 e3 k0 k1 k2 hu
  have hiz : (i : Int) < (n : Int) := by omega
  unfold stv
  go_enter Try.func21, Try.ntmps21
  go_wp2_with (go_at_call 29; go_must (refine HI.out.mono ?_; rintro e w5 ⟨rfl, hb⟩; rw [← HW3.out] at hb; obtain ⟨hb5, z5, f0, f1, f2, f3⟩ := HF.out w5 hb; have d0 : w5.cell? ⟨w.heap.size + 1 + 1, 0, none⟩ = some (.int .i64 0) := (cell_of_blk z5 0).trans rfl; have d1 : w5.cell? ⟨w.heap.size + 1 + 1, 1, none⟩ = some (.int .i64 0) := (cell_of_blk z5 1).trans rfl; have d2 : w5.cell? ⟨w.heap.size + 1 + 1, 2, none⟩ = some (.int .i64 0) := (cell_of_blk z5 2).trans rfl; have t0 : w5.frozen? ⟨w.heap.size + 1 + 1, 0, none⟩ = false := frozen_of_blk z5 0; have t1 : w5.frozen? ⟨w.heap.size + 1 + 1, 1, none⟩ = false := frozen_of_blk z5 1; have t2 : w5.frozen? ⟨w.heap.size + 1 + 1, 2, none⟩ = false := frozen_of_blk z5 2; have H5 := Sealed.mk (And.intro hb5 z5); clear hb5 z5 hb))
  obtain ⟨W6, hW6⟩ : ∃ W6, W6 = ((w5.setCell ⟨w.heap.size + 1 + 1, 0, none⟩ (.int .i64 s1)).setCell ⟨w.heap.size + 1 + 1, 1, none⟩ (.int .i64 s2)).setCell ⟨w.heap.size + 1 + 1, 2, none⟩ (.int .i64 s3) := ⟨_, rfl⟩
  have z6 : W6.heap[w.heap.size + 1 + 1]? = some (.cells #[.int .i64 s1, .int .i64 s2, .int .i64 s3] 26 (0, 0)) := by
    rw [hW6, blk_setCell (blk_setCell (blk_setCell H5.out.2 0 _) 1 _) 2 _]
    rfl
  have y0 : W6.cell? ⟨w.heap.size + 1 + 1, 0, none⟩ = some (.int .i64 s1) := (cell_of_blk z6 0).trans rfl
  have y1 : W6.cell? ⟨w.heap.size + 1 + 1, 1, none⟩ = some (.int .i64 s2) := (cell_of_blk z6 1).trans rfl
  have y2 : W6.cell? ⟨w.heap.size + 1 + 1, 2, none⟩ = some (.int .i64 s3) := (cell_of_blk z6 2).trans rfl
  rw [← hW6]
  refine bodyPost_ret (v := .agg #[.int .i64 s1, .int .i64 s2, .int .i64 s3]) (by simp [results, Try.results21, go_sem, y0, y1, y2]) rfl ⟨rfl, ?_⟩
  rw [hW6]
  exact ((H5.out.1.setCell (by show w.heap.size ≤ w.heap.size + 1 + 1; omega) _).setCell (by show w.heap.size ≤ w.heap.size + 1 + 1; omega) _).setCell (by show w.heap.size ≤ w.heap.size + 1 + 1; omega) _

set_option maxRecDepth 100000 in
set_option maxHeartbeats 4000000 in
theorem After_any {w : World} {t : Nat → Int} {s : St} {m : Int} (hm : 1 ≤ m) (h2 : m ≤ 60) {u : Value} {i : Nat} (hu : NumIs w u (i : Int)) (hlt : ∀ L lead, IsWay (nx t m) (fst m s) L lead → i < L.length) :
    Calls Try.prog 12 #[turnv t, stv s, u, .int .i64 m] w fun e w' => e = .returned (.tuple #[stv (itr (nx t m) (fst m s) i), .int .i64 0]) ∧ Below w.heap.size w w' := by
  obtain ⟨p, rfl⟩ := hu.agg
  have hsg : decide (sg (i : Int) < 0) = false := by unfold sg; split <;> (try split) <;> simp <;> omega
  obtain ⟨W4, hW4⟩ : ∃ W4, W4 = (((w.alloc (.cells (turnCells t) 25)).alloc (.cells #[.int .i64 s.1, .int .i64 s.2.1, .int .i64 s.2.2] 26)).alloc (.cells #[.pointer p] 50)).alloc (.cells #[.int .i64 0, .int .i64 0, .int .i64 0] 26) := ⟨_, rfl⟩
  have b4 : Below w.heap.size w W4 := by
    rw [hW4]
    repeat (first | exact Below.refl _ _ | refine below_st' ?_ _)
  have x2 := blk_alloc ((w.alloc (.cells (turnCells t) 25)).alloc (.cells #[.int .i64 s.1, .int .i64 s.2.1, .int .i64 s.2.2] 26)) (.cells #[.pointer p] 50)
  have e2 : ((w.alloc (.cells (turnCells t) 25)).alloc (.cells #[.int .i64 s.1, .int .i64 s.2.1, .int .i64 s.2.2] 26)).heap.size = w.heap.size + 1 + 1 := by simp
  rw [e2] at x2
  have x2' := blk_alloc_old x2 (.cells #[.int .i64 0, .int .i64 0, .int .i64 0] 26)
  have x3 := blk_alloc (((w.alloc (.cells (turnCells t) 25)).alloc (.cells #[.int .i64 s.1, .int .i64 s.2.1, .int .i64 s.2.2] 26)).alloc (.cells #[.pointer p] 50)) (.cells #[.int .i64 0, .int .i64 0, .int .i64 0] 26)
  have e3 : (((w.alloc (.cells (turnCells t) 25)).alloc (.cells #[.int .i64 s.1, .int .i64 s.2.1, .int .i64 s.2.2] 26)).alloc (.cells #[.pointer p] 50)).heap.size = w.heap.size + 1 + 1 + 1 := by simp
  rw [e3] at x3
  rw [← hW4] at x2' x3
  have htu := turning_any t s m hm h2 W4
  rw [hW4] at htu
  have HTU := Sealed.mk htu; clear htu
  have HU := Sealed.mk (And.intro hu (And.intro hlt (And.intro b4 (And.intro x2' (And.intro x3 hW4))))); clear hu hlt b4 x2 x2' x3 hW4 e2 e3
  obtain ⟨v, hv⟩ : ∃ v, v = itr (nx t m) (fst m s) i := ⟨_, rfl⟩
  rw [← hv]
  obtain ⟨v1, v2, v3⟩ := v
  have HVV := Sealed.mk hv; clear hv
  unfold turnv stv at HTU ⊢
  go_enter Try.func12, Try.ntmps12
  go_upto_region 4 with (first
    | (go_at_call 9; go_must (refine HTU.out.mono ?_; rintro e w5 ⟨f, rfl, hb5, hf5⟩; rw [← HU.out.2.2.2.2.2] at hb5; have f2 : ∀ o, (w5.alloc o).cell? ⟨w.heap.size + 1 + 1, 0, none⟩ = some (.pointer p) := fun o => (cell_of_blk (blk_alloc_old ((hb5.block _ (lt_of_blk HU.out.2.2.2.1)).trans HU.out.2.2.2.1) o) 0).trans rfl; have hsgn := Sign_any (HU.out.1.below (below_st' (below_chain HU.out.2.2.1 hb5) (.cells #[.int .i64 (fst m s).1, .int .i64 (fst m s).2.1, .int .i64 (fst m s).2.2] 26))); have HSG := Sealed.mk hsgn; clear hsgn; have H5 := Sealed.mk (And.intro hb5 hf5); clear hb5 hf5))
    | (go_at_call 20; go_must (refine HSG.out.mono ?_; rintro e w6 ⟨rfl, hb6⟩; have HB6 := Sealed.mk hb6; clear hb6)))
  clear f2
  have hbS : Below w5.heap.size (w5.alloc (.cells #[.int .i64 (fst m s).1, .int .i64 (fst m s).2.1, .int .i64 (fst m s).2.2] 26)) w6 := below_mono' HB6.out (by simp)
  have b46 : Below W4.heap.size W4 w6 := by
    have h1 := below_st' H5.out.1 (.cells #[.int .i64 (fst m s).1, .int .i64 (fst m s).2.1, .int .i64 (fst m s).2.2] 26)
    exact h1.trans (below_mono' HB6.out h1.size)
  have b06 : Below w.heap.size w w6 := below_chain HU.out.2.2.1 b46
  have zs : w6.heap[w5.heap.size]? = some (.cells #[.int .i64 (fst m s).1, .int .i64 (fst m s).2.1, .int .i64 (fst m s).2.2] 26 (0, 0)) := (HB6.out.block _ (by simp)).trans (blk_alloc w5 _)
  have zp := (b46.block _ (lt_of_blk HU.out.2.2.2.1)).trans HU.out.2.2.2.1
  have z8 := (b46.block _ (lt_of_blk HU.out.2.2.2.2.1)).trans HU.out.2.2.2.2.1
  have hsz : w.heap.size + 1 + 1 + 1 < w5.heap.size := by have := H5.out.1.size; have := lt_of_blk HU.out.2.2.2.2.1; omega
  have hf6 : TurnFn w6.drew f t m := (H5.out.2.below (below_st' (Below.refl _ _) (.cells #[.int .i64 (fst m s).1, .int .i64 (fst m s).2.1, .int .i64 (fst m s).2.2] 26))).below (below_sd HB6.out)
  obtain ⟨cb, rfl, hcb⟩ := hf6.calls (by omega) h2
  have hal := along_turn (by omega) h2 s hcb
  unfold stv at hal
  have ks : ∀ w', Ext (fun q => q = w.heap.size + 1 + 1 + 1) w6 w' → w'.cell? ⟨w5.heap.size, 0, none⟩ = some (.int .i64 (fst m s).1) ∧ w'.cell? ⟨w5.heap.size, 1, none⟩ = some (.int .i64 (fst m s).2.1) ∧ w'.cell? ⟨w5.heap.size, 2, none⟩ = some (.int .i64 (fst m s).2.2) ∧ w'.cell? ⟨w.heap.size + 1 + 1, 0, none⟩ = some (.pointer p) := fun w' hx => by
    have y1 := hx.get zs (by omega)
    have y2 := hx.get zp (by omega)
    exact ⟨(cell_of_blk y1 0).trans rfl, (cell_of_blk y1 1).trans rfl, (cell_of_blk y1 2).trans rfl, (cell_of_blk y2 0).trans rfl⟩
  have HKS := Sealed.mk ks; clear ks
  have HAL := Sealed.mk hal; clear hal hcb hf6
  have HX6 := Sealed.mk ((Ext.refl (fun q => q = w.heap.size + 1 + 1 + 1) w6).drew)
  have H6 := Sealed.mk (And.intro b06 (And.intro z8 HVV.out)); clear b06 zs zp z8 hbS b46 HVV
  go_region_held3 (fun w' => w'.cell? ⟨w5.heap.size, 0, none⟩ = some (.int .i64 (fst m s).1) ∧ w'.cell? ⟨w5.heap.size, 1, none⟩ = some (.int .i64 (fst m s).2.1) ∧ w'.cell? ⟨w5.heap.size, 2, none⟩ = some (.int .i64 (fst m s).2.2) ∧ w'.cell? ⟨w.heap.size + 1 + 1, 0, none⟩ = some (.pointer p))
    (first | exact HKS.out _ HX6.out | exact HKS.out _ HX7.out | exact HKS.out _ HX8.out | exact HKS.out _ (((HX8.out.setCell (.inl rfl) _).setCell (.inl rfl) _).setCell (.inl rfl) _))
    (first
      | (go_at_call 10; go_must (refine HAL.out.mono ?_; rintro e w7 ⟨L, lead, a, c, rfl, hway, hown, hb7, hok⟩; have hil := HU.out.2.1 L lead hway; have hget := hway.get i hil; rw [← H6.out.2.2] at hget; have HX7 := Sealed.mk (HX6.out.trans (Ext.of_below (M := noB) hb7) (fun _ h => h.elim)); have b07 : Below w.heap.size w w7 := below_chain (below_sd H6.out.1) hb7; have hbe := behind_any (lead := lead) hown (way_few (by omega) h2 hway) hget (HU.out.1.below b07); unfold stv at hbe; have HBE := Sealed.mk hbe; have H7 := Sealed.mk (And.intro b07 ((hb7.block _ (lt_of_blk H6.out.2.1)).trans H6.out.2.1)); clear hbe hown hway hb7 hok hget b07))
      | (go_at_call 21; go_must (refine HBE.out.mono ?_; rintro e w8 ⟨rfl, hb8⟩; have HX8 := Sealed.mk (HX7.out.trans (Ext.of_below (M := noB) hb8) (fun _ h => h.elim)); have y8 := (hb8.block _ (lt_of_blk H7.out.2)).trans H7.out.2; have d0 : w8.cell? ⟨w.heap.size + 1 + 1 + 1, 0, none⟩ = some (.int .i64 0) := (cell_of_blk y8 0).trans rfl; have d1 : w8.cell? ⟨w.heap.size + 1 + 1 + 1, 1, none⟩ = some (.int .i64 0) := (cell_of_blk y8 1).trans rfl; have d2 : w8.cell? ⟨w.heap.size + 1 + 1 + 1, 2, none⟩ = some (.int .i64 0) := (cell_of_blk y8 2).trans rfl; have t0 : w8.frozen? ⟨w.heap.size + 1 + 1 + 1, 0, none⟩ = false := frozen_of_blk y8 0; have t1 : w8.frozen? ⟨w.heap.size + 1 + 1 + 1, 1, none⟩ = false := frozen_of_blk y8 1; have t2 : w8.frozen? ⟨w.heap.size + 1 + 1 + 1, 2, none⟩ = false := frozen_of_blk y8 2; have H8 := Sealed.mk (And.intro (below_chain H7.out.1 hb8) y8); clear hb8 y8)))
  obtain ⟨W9, hW9⟩ : ∃ W9, W9 = ((w8.setCell ⟨w.heap.size + 1 + 1 + 1, 0, none⟩ (.int .i64 v1)).setCell ⟨w.heap.size + 1 + 1 + 1, 1, none⟩ (.int .i64 v2)).setCell ⟨w.heap.size + 1 + 1 + 1, 2, none⟩ (.int .i64 v3) := ⟨_, rfl⟩
  have z9 : W9.heap[w.heap.size + 1 + 1 + 1]? = some (.cells #[.int .i64 v1, .int .i64 v2, .int .i64 v3] 26 (0, 0)) := by
    rw [hW9, blk_setCell (blk_setCell (blk_setCell H8.out.2 0 _) 1 _) 2 _]
    rfl
  have y0 : W9.cell? ⟨w.heap.size + 1 + 1 + 1, 0, none⟩ = some (.int .i64 v1) := (cell_of_blk z9 0).trans rfl
  have y1 : W9.cell? ⟨w.heap.size + 1 + 1 + 1, 1, none⟩ = some (.int .i64 v2) := (cell_of_blk z9 1).trans rfl
  have y2 : W9.cell? ⟨w.heap.size + 1 + 1 + 1, 2, none⟩ = some (.int .i64 v3) := (cell_of_blk z9 2).trans rfl
  rw [← hW9]
  go_wp2_with fail
  refine bodyPost_ret (v := .tuple #[.agg #[.int .i64 v1, .int .i64 v2, .int .i64 v3], .int .i64 0]) (by simp [results, Try.results12, go_sem, y0, y1, y2]) rfl ⟨rfl, ?_⟩
  rw [hW9]
  exact ((H8.out.1.setCell (by show w.heap.size ≤ w.heap.size + 1 + 1 + 1; omega) _).setCell (by show w.heap.size ≤ w.heap.size + 1 + 1 + 1; omega) _).setCell (by show w.heap.size ≤ w.heap.size + 1 + 1 + 1; omega) _

end Go.Proofs.Ythmagdibjbadaaa

namespace Go.Proofs.Ythmagdibjbadaaa
open Go.RowKit Sr

theorem below_chain' {n : Nat} {w a b : World} (h : Below w.heap.size w a) (k : Below n a b) (hn : w.heap.size ≤ n := by omega) : Below w.heap.size w b := h.trans (below_mono' k hn)

/-- the next state of the sequence -/
def fib (s : St) : St := (s.2.1, (s.2.1 + s.1) % 60, 0)
theorem fib_ok (s : St) (h : OkSt 60 s) : OkSt 60 (fib s) := ⟨h.2.1, modq_range _ _ (by omega), by simp [fib], by simp [fib]⟩

set_option maxRecDepth 100000 in
set_option maxHeartbeats 4000000 in
theorem recurF_any (s : St) (hs : OkSt 60 s) {w : World} {bk bf bm g c : Nat} (hk : w.heap[bk]? = some (.cells #[.int .i64 2] 3 (0, 0))) (hf : w.heap[bf]? = some (.cells #[.slice (some ⟨g, 0, none⟩) 2 c] 54 (0, 0)))
    (hg : w.heap[g]? = some (.cells #[.int .i64 1, .int .i64 1] 3 (0, 0))) (hbm : w.heap[bm]? = some (.cells #[.int .i64 60] 3 (0, 0))) :
    Calls Try.prog 25 #[stv s, .pointer (some ⟨bk, 0, none⟩), .pointer (some ⟨bf, 0, none⟩), .pointer (some ⟨bm, 0, none⟩)] w fun e w' => e = .returned (stv (fib s)) ∧ Below w.heap.size w w' := by
  obtain ⟨a, b, d⟩ := s
  obtain ⟨⟨a1, a2⟩, ⟨b1, b2⟩, c1, c2⟩ := hs
  simp only at a1 a2 b1 b2 c1 c2
  have hr := fun n w => modulo_any n 60 (by omega) (by omega) w
  have k0 : w.cell? ⟨bk, 0, none⟩ = some (.int .i64 2) := (cell_of_blk hk 0).trans rfl
  have k1 : w.cell? ⟨bf, 0, none⟩ = some (.slice (some ⟨g, 0, none⟩) 2 c) := (cell_of_blk hf 0).trans rfl
  have k2 : w.cell? ⟨g, 0, none⟩ = some (.int .i64 1) := (cell_of_blk hg 0).trans rfl
  have k3 : w.cell? ⟨g, 1, none⟩ = some (.int .i64 1) := (cell_of_blk hg 1).trans rfl
  have k4 : w.cell? ⟨bm, 0, none⟩ = some (.int .i64 60) := (cell_of_blk hbm 0).trans rfl
  have K2 := Sealed.mk (And.intro (fun o1 o2 => alloc_cell (alloc_cell k0 o1) o2) (And.intro (fun o1 o2 => alloc_cell (alloc_cell k1 o1) o2) (And.intro (fun o1 o2 => alloc_cell (alloc_cell k2 o1) o2) (And.intro (fun o1 o2 => alloc_cell (alloc_cell k3 o1) o2) (fun o1 o2 => alloc_cell (alloc_cell k4 o1) o2)))))
  have i0 := fun o1 o2 => alloc_cell (alloc_cell k0 o1) o2
  have i1 := fun o1 o2 => alloc_cell (alloc_cell k1 o1) o2
  have i2 := fun o1 o2 => alloc_cell (alloc_cell k2 o1) o2
  have i3 := fun o1 o2 => alloc_cell (alloc_cell k3 o1) o2
  have i4 := fun o1 o2 => alloc_cell (alloc_cell k4 o1) o2
  have j0 := fun o1 o2 o3 => alloc_cell (i0 o1 o2) o3
  have j4 := fun o1 o2 o3 => alloc_cell (i4 o1 o2) o3
  have K2k := k0
  have K2m := k4
  clear k0 k1 k2 k3 k4 hk hf hg hbm K2
  have wa : IntKind.i64.wrap a = a := by rw [IntKind.wrap_i64]; omega
  have wb : IntKind.i64.wrap b = b := by rw [IntKind.wrap_i64]; omega
  have wab : IntKind.i64.wrap (b + a) = b + a := by rw [IntKind.wrap_i64]; omega
  have e0 : IntKind.i64.wrap 0 = 0 := by decide
  have e1 : IntKind.i64.wrap 1 = 1 := by decide
  unfold stv
  go_enter Try.func25, Try.ntmps25
  go_wp2_with fail
  refine wp_loop_rounds 3 ?_
  rw [rounds_succ]
  go_wp2_with fail
  go_region_held3 (fun w' => w'.cell? ⟨bk, 0, none⟩ = some (.int .i64 2) ∧ w'.cell? ⟨bf, 0, none⟩ = some (.slice (some ⟨g, 0, none⟩) 2 c) ∧ w'.cell? ⟨g, 0, none⟩ = some (.int .i64 1) ∧ w'.cell? ⟨bm, 0, none⟩ = some (.int .i64 60) ∧ w'.cell? ⟨w.heap.size, 1, none⟩ = some (.int .i64 b))
    (first | (simp [go_sem, i0, i1, i2, i3, i4]; done) | (go_simp; done)) (first | (go_at_call 18; refine (hr _ _).mono ?_; rintro e w1 ⟨rfl, rfl⟩))
  all_goals (go_wp2_with fail; rw [rounds_succ]; go_wp2_with fail)
  all_goals go_region_held3 (fun w' => w'.cell? ⟨bk, 0, none⟩ = some (.int .i64 2) ∧ w'.cell? ⟨bf, 0, none⟩ = some (.slice (some ⟨g, 0, none⟩) 2 c) ∧ w'.cell? ⟨g, 1, none⟩ = some (.int .i64 1) ∧ w'.cell? ⟨bm, 0, none⟩ = some (.int .i64 60) ∧ w'.cell? ⟨w.heap.size, 0, none⟩ = some (.int .i64 a))
    (first | (simp [go_sem, i0, i1, i2, i3, i4]; done) | (go_simp; done)) (first | (go_at_call 18; refine (hr _ _).mono ?_; rintro e w1 ⟨rfl, rfl⟩))
  all_goals (go_wp2_with fail; rw [rounds_succ]; go_wp2_with fail)
  obtain ⟨W8, hW8⟩ : ∃ W8, W8 = (((w.alloc (.cells #[.int .i64 a, .int .i64 b, .int .i64 d] 26)).alloc (.cells #[.int .i64 0, .int .i64 0, .int .i64 0] 26)).alloc (.cells #[.int .i64 0, .int .i64 0, .int .i64 0] 26)).drew.drew := ⟨_, rfl⟩
  have b8 : Below w.heap.size w W8 := by
    rw [hW8]
    repeat (first | exact Below.refl _ _ | refine below_st ?_ _ | refine below_sd ?_)
  have x0 : W8.heap[w.heap.size]? = some (.cells #[.int .i64 a, .int .i64 b, .int .i64 d] 26 (0, 0)) := by
    rw [hW8]; exact blk_alloc_old (blk_alloc_old (blk_alloc w _) _) _
  have x1 : W8.heap[w.heap.size + 1]? = some (.cells #[.int .i64 0, .int .i64 0, .int .i64 0] 26 (0, 0)) := by
    have h := blk_alloc_old (blk_alloc (w.alloc (.cells #[.int .i64 a, .int .i64 b, .int .i64 d] 26)) (.cells #[.int .i64 0, .int .i64 0, .int .i64 0] 26)) (.cells #[.int .i64 0, .int .i64 0, .int .i64 0] 26)
    have e : (w.alloc (.cells #[.int .i64 a, .int .i64 b, .int .i64 d] 26)).heap.size = w.heap.size + 1 := by simp
    rw [e] at h
    rw [hW8]; exact h
  have x2 : W8.heap[w.heap.size + 1 + 1]? = some (.cells #[.int .i64 0, .int .i64 0, .int .i64 0] 26 (0, 0)) := by
    have h := blk_alloc ((w.alloc (.cells #[.int .i64 a, .int .i64 b, .int .i64 d] 26)).alloc (.cells #[.int .i64 0, .int .i64 0, .int .i64 0] 26)) (.cells #[.int .i64 0, .int .i64 0, .int .i64 0] 26)
    have e : ((w.alloc (.cells #[.int .i64 a, .int .i64 b, .int .i64 d] 26)).alloc (.cells #[.int .i64 0, .int .i64 0, .int .i64 0] 26)).heap.size = w.heap.size + 1 + 1 := by simp
    rw [e] at h
    rw [hW8]; exact h
  have n0 : W8.drew.cell? ⟨bk, 0, none⟩ = some (.int .i64 2) := by rw [hW8]; exact j0 _ _ _
  have n4 : W8.cell? ⟨bm, 0, none⟩ = some (.int .i64 60) := by rw [hW8]; exact j4 _ _ _
  have n0' : W8.cell? ⟨bk, 0, none⟩ = some (.int .i64 2) := n0
  have hlk := lt_of_cell K2k
  have hlm := lt_of_cell K2m
  rw [← hW8]
  have H8 := Sealed.mk (And.intro b8 (And.intro x0 (And.intro x1 (And.intro x2 (And.intro n0' n4))))); clear b8 x0 x1 x2 n4 i0 i1 i2 i3 i4 j0 j4 hW8
  refine wp_region_still_tail 5 (by kernel_rfl) (by kernel_rfl) ?_
  simp only [List.take_succ_cons, List.take_zero, List.drop_succ_cons, List.drop_zero]
  (repeat still_step)
  refine wpStill_nil ?_
  change wpList _ _ _ _ _ W8.drew
  refine wpList_copy_splice rfl (.tmp 31) (.tmp 33) 54 54 rfl 3 Try.underlying54 (by kernel_rfl) (some ⟨w.heap.size + 1 + 1, 0, none⟩) (some ⟨w.heap.size, 1, none⟩) 1 3 1 2 rfl rfl (w.heap.size + 1 + 1) 0 [.int .i64 0, .int .i64 0, .int .i64 0] 26 H8.out.2.2.2.1 [.int .i64 b] rfl
    (fun _ => ⟨rfl, _, rfl, fun j v hv => ?_⟩) (by simp) (by simp [Value.oneCell']) (w.heap.size + 1 + 1) W8.drew (Below.refl _ _) (Nat.le_refl _) ?_
  · cases j with
    | zero =>
      simp at hv
      subst hv
      exact (cell_of_blk H8.out.2.1 1).trans rfl
    | succ j => simp at hv
  · intro w9 h9 hb9
    have z9 : w9.heap[w.heap.size + 1 + 1]? = some (.cells #[.int .i64 b, .int .i64 0, .int .i64 0] 26 (0, 0)) := h9
    clear h9 n0
    have m0 : w9.cell? ⟨bk, 0, none⟩ = some (.int .i64 2) := (cell_same (hb9.block bk (by omega)) 0).trans H8.out.2.2.2.2.1
    have m4 : w9.cell? ⟨bm, 0, none⟩ = some (.int .i64 60) := (cell_same (hb9.block bm (by omega)) 0).trans H8.out.2.2.2.2.2
    have r1 : w9.cell? ⟨w.heap.size + 1 + 1, 1, none⟩ = some (.int .i64 0) := (cell_of_blk z9 1).trans rfl
    have r1f : w9.frozen? ⟨w.heap.size + 1 + 1, 1, none⟩ = false := frozen_of_blk z9 1
    have z91 : w9.heap[w.heap.size + 1]? = some (.cells #[.int .i64 0, .int .i64 0, .int .i64 0] 26 (0, 0)) := (hb9.block _ (by omega)).trans H8.out.2.2.1
    have b9 : Below w.heap.size w w9 := below_chain' (below_sd H8.out.1) hb9
    have v0 : ∀ v, (w9.setCell ⟨w.heap.size + 1 + 1, 1, none⟩ v).cell? ⟨w.heap.size + 1 + 1, 0, none⟩ = some (.int .i64 b) := fun v => by rw [cell_of_blk (blk_setCell z9 1 v)]; rfl
    have v1 : ∀ v, (w9.setCell ⟨w.heap.size + 1 + 1, 1, none⟩ v).cell? ⟨w.heap.size + 1 + 1, 1, none⟩ = some v := fun v => by rw [cell_of_blk (blk_setCell z9 1 v)]; rfl
    have v2 : ∀ v, (w9.setCell ⟨w.heap.size + 1 + 1, 1, none⟩ v).cell? ⟨w.heap.size + 1 + 1, 2, none⟩ = some (.int .i64 0) := fun v => by rw [cell_of_blk (blk_setCell z9 1 v)]; rfl
    have zz : ∀ v, (w9.setCell ⟨w.heap.size + 1 + 1, 1, none⟩ v).heap[w.heap.size + 1]? = some (.cells #[.int .i64 0, .int .i64 0, .int .i64 0] 26 (0, 0)) := fun v =>
      ((Ext.refl (fun q => q = w.heap.size + 1 + 1) w9).setCell (p := ⟨w.heap.size + 1 + 1, 1, none⟩) (.inl rfl) v).get z91 (by omega)
    have u0 : ∀ v, (w9.setCell ⟨w.heap.size + 1 + 1, 1, none⟩ v).cell? ⟨w.heap.size + 1, 0, none⟩ = some (.int .i64 0) := fun v => (cell_of_blk (zz v) 0).trans rfl
    have u1 : ∀ v, (w9.setCell ⟨w.heap.size + 1 + 1, 1, none⟩ v).cell? ⟨w.heap.size + 1, 1, none⟩ = some (.int .i64 0) := fun v => (cell_of_blk (zz v) 1).trans rfl
    have u2 : ∀ v, (w9.setCell ⟨w.heap.size + 1 + 1, 1, none⟩ v).cell? ⟨w.heap.size + 1, 2, none⟩ = some (.int .i64 0) := fun v => (cell_of_blk (zz v) 2).trans rfl
    have f0 : ∀ v, (w9.setCell ⟨w.heap.size + 1 + 1, 1, none⟩ v).frozen? ⟨w.heap.size + 1, 0, none⟩ = false := fun v => frozen_of_blk (zz v) 0
    have f1 : ∀ v, (w9.setCell ⟨w.heap.size + 1 + 1, 1, none⟩ v).frozen? ⟨w.heap.size + 1, 1, none⟩ = false := fun v => frozen_of_blk (zz v) 1
    have f2 : ∀ v, (w9.setCell ⟨w.heap.size + 1 + 1, 1, none⟩ v).frozen? ⟨w.heap.size + 1, 2, none⟩ = false := fun v => frozen_of_blk (zz v) 2
    have H9 := Sealed.mk (And.intro z9 (And.intro zz b9)); clear z9 z91 zz b9 hb9
    go_wp2_with fail
    go_region
    all_goals
      go_wp2_with fail
      obtain ⟨W9, hW9⟩ : ∃ W9, W9 = (((w9.setCell ⟨w.heap.size + 1 + 1, 1, none⟩ (.int .i64 ((b + a) % 60))).setCell ⟨w.heap.size + 1, 0, none⟩ (.int .i64 b)).setCell ⟨w.heap.size + 1, 1, none⟩ (.int .i64 ((b + a) % 60))).setCell ⟨w.heap.size + 1, 2, none⟩ (.int .i64 0) := ⟨_, rfl⟩
      rw [← hW9]
      have z : W9.heap[w.heap.size + 1]? = some (.cells #[.int .i64 b, .int .i64 ((b + a) % 60), .int .i64 0] 26 (0, 0)) := by
        rw [hW9, blk_setCell (blk_setCell (blk_setCell (H9.out.2.1 _) 0 _) 1 _) 2 _]
        rfl
      have y0 : W9.drew.cell? ⟨w.heap.size + 1, 0, none⟩ = some (.int .i64 b) := (cell_of_blk z 0).trans rfl
      have y1 : W9.drew.cell? ⟨w.heap.size + 1, 1, none⟩ = some (.int .i64 ((b + a) % 60)) := (cell_of_blk z 1).trans rfl
      have y2 : W9.drew.cell? ⟨w.heap.size + 1, 2, none⟩ = some (.int .i64 0) := (cell_of_blk z 2).trans rfl
      refine bodyPost_ret (v := .agg #[.int .i64 b, .int .i64 ((b + a) % 60), .int .i64 0]) (by simp [results, Try.results25, go_sem, y0, y1, y2]) rfl ⟨rfl, ?_⟩
      refine below_sd ?_
      rw [hW9]
      exact (((H9.out.2.2.setCell (by show w.heap.size ≤ w.heap.size + 1 + 1; omega) _).setCell (by show w.heap.size ≤ w.heap.size + 1; omega) _).setCell (by show w.heap.size ≤ w.heap.size + 1; omega) _).setCell (by show w.heap.size ≤ w.heap.size + 1; omega) _

end Go.Proofs.Ythmagdibjbadaaa

namespace Go.Proofs.Ythmagdibjbadaaa
open Go.RowKit Sr

theorem enters_recurF : ∀ args w, (callFunc 25 args).run Try.prog w = .ok (.enter 25 args) w := fun _ _ => by kernel_rfl

theorem ok_fib0 : OkSt 60 ((0, 1, 0) : St) := by refine ⟨⟨?_, ?_⟩, ⟨?_, ?_⟩, ?_, ?_⟩ <;> decide

/-- the way of Fibonacci's numbers modulo 60 is longer than ten -/
theorem fib_long {L : List St} {lead : Nat} (h : IsWay fib (0, 1, 0) L lead) : 10 < L.length := by
  rcases Nat.lt_or_ge 10 L.length with hl | hl
  · exact hl
  · have hb := h.back
    have hlt := h.lt
    exfalso
    generalize L.length = n at hb hlt hl
    have : ∀ n ≤ 10, ∀ lead < n, itr fib (0, 1, 0) n ≠ itr fib (0, 1, 0) lead := by decide
    exact this n hl lead hlt hb

theorem fib_ten : itr fib (0, 1, 0) 10 = (55, 29, 0) := by decide

theorem run_index_st (a b c : Int) (W : World) : (Instr.index 26 (.agg #[.int .i64 a, .int .i64 b, .int .i64 c]) (.int .i64 0)).run Try.prog W = .ok (.int .i64 a) W := by kernel_rfl

set_option maxRecDepth 100000 in
set_option maxHeartbeats 4000000 in
theorem recur_any {w : World} {gf gs : Nat} {u : Value} (hf : w.heap[gf]? = some (.cells #[.int .i64 1, .int .i64 1] 3 (0, 0))) (hs : w.heap[gs]? = some (.cells #[.int .i64 0, .int .i64 1] 3 (0, 0))) (hu : NumIs w u 10) :
    Calls Try.prog 14 #[.slice (some ⟨gf, 0, none⟩) 2 2, .slice (some ⟨gs, 0, none⟩) 2 2, u, .int .i64 60] w fun e w' => e = .returned (.tuple #[.int .i64 55, .int .i64 0]) ∧ Below w.heap.size w w' := by
  obtain ⟨p, rfl⟩ := hu.agg
  have hr := fun n w => modulo_any n 60 (by omega) (by omega) w
  have hsg : decide (sg (10 : Int) < 0) = false := by decide
  have k0 : w.cell? ⟨gs, 0, none⟩ = some (.int .i64 0) := (cell_of_blk hs 0).trans rfl
  have k1 : w.cell? ⟨gs, 1, none⟩ = some (.int .i64 1) := (cell_of_blk hs 1).trans rfl
  obtain ⟨W4, hW4⟩ : ∃ W4, W4 = ((((w.alloc (.cells #[.slice (some ⟨gf, 0, none⟩) 2 2] 54)).alloc (.cells #[.pointer p] 50)).alloc (.cells #[.int .i64 60] 3)).alloc (.cells #[.int .i64 2] 3)) := ⟨_, rfl⟩
  have b4 : Below w.heap.size w W4 := by
    rw [hW4]
    repeat (first | exact Below.refl _ _ | refine below_st' ?_ _)
  have x0 := blk_alloc_old (blk_alloc_old (blk_alloc_old (blk_alloc w (.cells #[.slice (some ⟨gf, 0, none⟩) 2 2] 54)) (.cells #[.pointer p] 50)) (.cells #[.int .i64 60] 3)) (.cells #[.int .i64 2] 3)
  have x1 := blk_alloc_old (blk_alloc_old (blk_alloc (w.alloc (.cells #[.slice (some ⟨gf, 0, none⟩) 2 2] 54)) (.cells #[.pointer p] 50)) (.cells #[.int .i64 60] 3)) (.cells #[.int .i64 2] 3)
  have x2 := blk_alloc_old (blk_alloc ((w.alloc (.cells #[.slice (some ⟨gf, 0, none⟩) 2 2] 54)).alloc (.cells #[.pointer p] 50)) (.cells #[.int .i64 60] 3)) (.cells #[.int .i64 2] 3)
  have x3 := blk_alloc (((w.alloc (.cells #[.slice (some ⟨gf, 0, none⟩) 2 2] 54)).alloc (.cells #[.pointer p] 50)).alloc (.cells #[.int .i64 60] 3)) (.cells #[.int .i64 2] 3)
  simp only [World.size_alloc] at x0 x1 x2 x3
  rw [← hW4] at x0 x1 x2 x3
  have hsgn := Sign_any (hu.below b4)
  rw [hW4] at hsgn
  have HSG := Sealed.mk hsgn; clear hsgn
  have HK : Sealed (∀ w6, Below W4.heap.size W4 w6 → Below w.heap.size w w6 ∧ NumIs w6 (.agg #[.pointer p]) 10 ∧ w6.heap[gf]? = some (.cells #[.int .i64 1, .int .i64 1] 3 (0, 0)) ∧ w6.heap[gs]? = some (.cells #[.int .i64 0, .int .i64 1] 3 (0, 0)) ∧
      w6.heap[w.heap.size]? = some (.cells #[.slice (some ⟨gf, 0, none⟩) 2 2] 54 (0, 0)) ∧ w6.heap[w.heap.size + 1]? = some (.cells #[.pointer p] 50 (0, 0)) ∧ w6.heap[w.heap.size + 1 + 1]? = some (.cells #[.int .i64 60] 3 (0, 0)) ∧ w6.heap[w.heap.size + 1 + 1 + 1]? = some (.cells #[.int .i64 2] 3 (0, 0))) := ⟨fun w6 hb => by
    have b06 := below_chain b4 hb
    exact ⟨b06, hu.below b06, (b06.block _ (lt_of_blk hf)).trans hf, (b06.block _ (lt_of_blk hs)).trans hs, (hb.block _ (lt_of_blk x0)).trans x0, (hb.block _ (lt_of_blk x1)).trans x1, (hb.block _ (lt_of_blk x2)).trans x2, (hb.block _ (lt_of_blk x3)).trans x3⟩⟩
  have H4 := Sealed.mk hW4; clear hW4 hu b4 x0 x1 x2 x3 hf hs k0 k1
  go_enter Try.func14, Try.ntmps14
  go_wp2_with (first
    | (go_at_call 20; go_must (refine HSG.out.mono ?_; rintro e w6 ⟨rfl, hb6⟩; rw [← H4.out] at hb6; have HB6 := Sealed.mk (HK.out w6 hb6); clear hb6; have y3 : ∀ o, (w6.alloc o).cell? ⟨w.heap.size + 1 + 1 + 1, 0, none⟩ = some (.int .i64 2) := fun o => (cell_of_blk (blk_alloc_old HB6.out.2.2.2.2.2.2.2 o) 0).trans rfl)))
  clear y3
  obtain ⟨b06, hu6, hf6, hs6, z0, z1, z2, z3⟩ := HB6.out
  have i0 : ∀ o, (w6.alloc o).cell? ⟨gs, 0, none⟩ = some (.int .i64 0) := fun o => (cell_of_blk (blk_alloc_old hs6 o) 0).trans rfl
  have i1 : ∀ o, (w6.alloc o).cell? ⟨gs, 1, none⟩ = some (.int .i64 1) := fun o => (cell_of_blk (blk_alloc_old hs6 o) 1).trans rfl
  have i2 : ∀ o, (w6.alloc o).cell? ⟨w.heap.size + 1 + 1, 0, none⟩ = some (.int .i64 60) := fun o => (cell_of_blk (blk_alloc_old z2 o) 0).trans rfl
  have h06 : w.heap.size + 1 + 1 + 1 < w6.heap.size := lt_of_blk z3
  have hgs := lt_of_blk hs6
  clear b06 hu6 hf6 hs6 z0 z1 z2 z3
  refine wp_loop_rounds 3 ?_
  rw [rounds_succ]
  go_wp2_with fail
  go_region_held3 (fun w' => w'.cell? ⟨gs, 0, none⟩ = some (.int .i64 0) ∧ w'.cell? ⟨w.heap.size + 1 + 1, 0, none⟩ = some (.int .i64 60))
    (first | (simp [go_sem, i0, i1, i2]; done) | (go_simp; done)) (first | (go_at_call 18; refine (hr _ _).mono ?_; rintro e w1 ⟨rfl, rfl⟩))
  all_goals (go_wp2_with fail; rw [rounds_succ]; go_wp2_with fail)
  all_goals go_region_held3 (fun w' => w'.cell? ⟨gs, 1, none⟩ = some (.int .i64 1) ∧ w'.cell? ⟨w.heap.size + 1 + 1, 0, none⟩ = some (.int .i64 60))
    (first | (simp [go_sem, i0, i1, i2]; done) | (go_simp; done)) (first | (go_at_call 18; refine (hr _ _).mono ?_; rintro e w1 ⟨rfl, rfl⟩))
  all_goals (go_wp2_with fail; rw [rounds_succ]; go_wp2_with fail)
  clear i0 i1 i2 h06 hgs
  obtain ⟨b06, hu6, hf6, hs6, z0, z1, z2, z3⟩ := HB6.out
  obtain ⟨W8, hW8⟩ : ∃ W8, W8 = (w6.alloc (.cells #[.int .i64 0, .int .i64 1, .int .i64 0] 26)).drew.drew := ⟨_, rfl⟩
  have b68 : Below w6.heap.size w6 W8 := by
    rw [hW8]
    exact below_sd (below_sd (below_st' (Below.refl _ _) _))
  rw [← hW8]
  have hal := along_any (w := W8) (m := 60) (by omega) (by omega) fib_ok ok_fib0 enters_recurF (cb := #[.pointer (some ⟨w.heap.size + 1 + 1 + 1, 0, none⟩), .pointer (some ⟨w.heap.size, 0, none⟩), .pointer (some ⟨w.heap.size + 1 + 1, 0, none⟩)]) (fun s hs w' hb => by
    have hq := below_chain b68 hb
    exact recurF_any s hs ((hq.block _ (lt_of_blk z3)).trans z3) ((hq.block _ (lt_of_blk z0)).trans z0) ((hq.block _ (lt_of_blk hf6)).trans hf6) ((hq.block _ (lt_of_blk z2)).trans z2))
  have HB8 := Sealed.mk b68; clear hW8 b68
  clear hf6 hs6 z0 z2 z3 b06 hu6 z1
  refine hal.mono ?_
  clear hal
  rintro e w7 ⟨L, lead, a, c, rfl, hway, hown, hb7, hok⟩
  obtain ⟨b06, hu6, -, -, -, z1, -, -⟩ := HB6.out
  have b67 := below_chain HB8.out hb7
  have hlen : L.length ≤ 216000 := by
    have := few_states (m := 60) hway.nodup hok
    omega
  have hget := hway.get 10 (fib_long hway)
  rw [fib_ten] at hget
  have hbe := behind_any (w := w7.alloc (.cells #[.slice a L.length c, .int .i64 (lead : Int)] 43)) (lead := lead) (own_ext hown (Ext.refl noB w7 |>.alloc _) fun _ _ e => e) hlen hget (hu6.below (below_st' b67 _))
  have c1 : ∀ o, (w7.alloc o).cell? ⟨w.heap.size + 1, 0, none⟩ = some (.pointer p) := fun o => (cell_of_blk (blk_alloc_old ((b67.block _ (lt_of_blk z1)).trans z1) o) 0).trans rfl
  have b07 := below_chain b06 b67
  generalize L.length = n at hbe ⊢
  simp only [stv] at hbe
  have HBE := Sealed.mk hbe; clear hbe
  have H7 := Sealed.mk b07; clear b07 b67 b06 hu6 z1 hown hway hget hlen hok hb7
  have hix := run_index_st 55 29 0
  go_wp2_with (first
    | (go_at_call 21; go_must (refine HBE.out.mono ?_; rintro e w9 ⟨rfl, hb9⟩; have H9 := Sealed.mk hb9; clear hb9)))
  refine bodyPost_ret (v := .tuple #[.int .i64 55, .int .i64 0]) (by simp [results, Try.results14, go_sem]) rfl ⟨rfl, ?_⟩
  exact below_chain (below_st' H7.out _) H9.out

end Go.Proofs.Ythmagdibjbadaaa
