/- a part as a number: the number in the making -/
import Derived.Test.YtgchfbfgjanaiaaJ27
set_option linter.unusedSimpArgs false
set_option linter.unusedVariables false
namespace Go.Proofs.Ytgchfbfgjanaiaa
open Go.RowKit Sr
structure PQ (W4 W : World) (src : Int) (at_ : Nat) (x : Int) (m nb kt kn : Nat) : Prop where
  ext : Ext (fun q => q = m ∨ q = nb) W4 W
  tab : ∃ cs : Array Value, W.heap[m]? = some (.cells cs 3 (0, 0)) ∧ cs.size = at_ ∧ ∀ j e : Nat, j < kt → (plist src)[j]? = some e → Part e x → cs[j]? = some (.int .i64 ((plist x).idxOf e : Nat))
  num : ∃ pv us, W.heap[nb]? = some (.cells #[pv, .slice none 0 0] 128 (0, 0)) ∧ W.ownsRow W4.heap.size 96 1 pv kn us ∧ us.length = kn ∧
    ∀ (i e : Nat) (u : Value), us[i]? = some u → (plist x)[i]? = some e → TL W u (enc (pvs x) (e : Int)) ∧ ∀ q, u.ownBlock = some q → W4.heap.size ≤ q ∧ pv.ownBlock ≠ some q
variable {W4 W W' : World} {src : Int} {at_ : Nat} {x : Int} {m nb kt kn : Nat}
theorem PQ.table (h : PQ W4 W src at_ x m nb kt kn) (hm : m < W4.heap.size) (hne : m ≠ nb) {e : Nat} (he : (plist src)[kt]? = some e) (hk : kt < at_) {r : Nat} (hr : r = (plist x).idxOf e) : PQ W4 (W.setCell ⟨m, kt, none⟩ (.int .i64 (r : Int))) src at_ x m nb (kt + 1) kn where
  ext := h.ext.trans ((Ext.refl (fun q => q = m) W).setCell (p := ⟨m, kt, none⟩) (.inl rfl) _) fun k hk => .inl (.inl hk)
  tab := by
    obtain ⟨cs, h1, h2, h3⟩ := h.tab
    refine ⟨_, blk_setCell h1 kt _, by simp [h2], fun j e' hj he' hp => ?_⟩
    rw [Array.getElem?_setIfInBounds]
    by_cases hjk : kt = j
    · subst hjk
      rw [he] at he'
      obtain rfl := Option.some.inj he'
      rw [if_pos rfl, if_pos (by omega), hr]
    · rw [if_neg hjk]
      exact h3 j e' (by omega) he' hp
  num := by
    obtain ⟨pv, us, h1, h2, h3, h4⟩ := h.num
    have hx : Ext (fun q => q = m) W (W.setCell ⟨m, kt, none⟩ (.int .i64 (r : Int))) := (Ext.refl (fun q => q = m) W).setCell (p := ⟨m, kt, none⟩) (.inl rfl) _
    refine ⟨pv, us, hx.get h1 (fun e => hne e.symm), own_ext h2 hx fun k hk e => by have := (h2.lt k hk).1; omega, h3, fun i e u hu he => ?_⟩
    obtain ⟨a1, a2⟩ := h4 i e u hu he
    exact ⟨a1.ext hx fun q hq e => by have := (a2 q hq).1; omega, a2⟩
theorem PQ.skip (h : PQ W4 W src at_ x m nb kt kn) {e : Nat} (he : (plist src)[kt]? = some e) (hp : ¬ Part e x) : PQ W4 W src at_ x m nb (kt + 1) kn where
  ext := h.ext
  tab := by
    obtain ⟨cs, h1, h2, h3⟩ := h.tab
    refine ⟨cs, h1, h2, fun j e' hj he' hp' => ?_⟩
    by_cases hjk : j = kt
    · subst hjk
      rw [he] at he'
      obtain rfl := Option.some.inj he'
      exact absurd hp' hp
    · exact h3 j e' (by omega) he' hp'
  num := h.num
theorem PQ.keep (h : PQ W4 W src at_ x m nb kt kn) (hx : Ext noB W W') : PQ W4 W' src at_ x m nb kt kn where
  ext := h.ext.trans hx fun _ hb => hb.elim
  tab := by
    obtain ⟨cs, h1, h2, h3⟩ := h.tab
    exact ⟨cs, hx.get h1 (fun e => e), h2, h3⟩
  num := by
    obtain ⟨pv, us, h1, h2, h3, h4⟩ := h.num
    refine ⟨pv, us, hx.get h1 (fun e => e), own_ext h2 hx fun k hk e => e, h3, fun i e u hu he => ?_⟩
    obtain ⟨a1, a2⟩ := h4 i e u hu he
    exact ⟨a1.ext hx fun q hq e => e, a2⟩
theorem PQ.push {W5 W6 : World} (h : PQ W4 W src at_ x m nb kt kn) (hm : m < W4.heap.size) (hn : nb < W4.heap.size) (hne : m ≠ nb) {pv pv' u : Value} {us : List Value} (h1 : W.heap[nb]? = some (.cells #[pv, .slice none 0 0] 128 (0, 0)))
    (h2 : W.ownsRow W4.heap.size 96 1 pv kn us) (h3 : us.length = kn) (h4 : ∀ (i e : Nat) (u : Value), us[i]? = some u → (plist x)[i]? = some e → TL W u (enc (pvs x) (e : Int)) ∧ ∀ q, u.ownBlock = some q → W4.heap.size ≤ q ∧ pv.ownBlock ≠ some q)
    (hx : Ext noB W W5) {e : Nat} (he : (plist x)[kn]? = some e) (hu : TL W5 u (enc (pvs x) (e : Int))) (hub : ∀ q, u.ownBlock = some q → W.heap.size ≤ q)
    (hgr : W5.grownBy W6 pv.ownBlock) (hnew : NewOr W5 pv pv') (hown : W6.ownsRow W4.heap.size 96 1 pv' (kn + 1) (us ++ [u])) : PQ W4 (W6.setCell ⟨nb, 0, none⟩ pv') src at_ x m nb kt (kn + 1) := by
  have hx5 : Ext (fun q => pv.ownBlock = some q) W5 W6 := ⟨hgr.os, hgr.tape, hgr.output, hgr.size, fun q hq hn => hgr.block q hq fun e => hn e.symm⟩
  have hx6 : Ext (fun q => q = nb) W6 (W6.setCell ⟨nb, 0, none⟩ pv') := (Ext.refl (fun q => q = nb) W6).setCell (p := ⟨nb, 0, none⟩) (.inl rfl) _
  have hpvlow : ∀ q, pv.ownBlock = some q → W4.heap.size ≤ q ∧ q < W.heap.size := fun q hq => h2.lt q hq
  have hpv'low : ∀ q, pv'.ownBlock = some q → W4.heap.size ≤ q := fun q hq => (hown.lt q hq).1
  have s45 : W4.heap.size ≤ W.heap.size := h.ext.size
  refine ⟨((h.ext.trans hx fun _ hb => hb.elim).trans hx5 fun q hq => .inr (hpvlow q hq).1).trans hx6 fun q hq => .inl (.inr hq), ?_, ?_⟩
  · obtain ⟨cs, t1, t2, t3⟩ := h.tab
    refine ⟨cs, ?_, t2, t3⟩
    have g1 := hx.get t1 fun e => e
    have g2 := hx5.get g1 fun e => by have := (hpvlow _ e).1; omega
    exact hx6.get g2 hne
  · have g1 : W6.heap[nb]? = some (.cells #[pv, .slice none 0 0] 128 (0, 0)) :=
      (hx5.block nb (Nat.lt_of_lt_of_le (lt_of_blk h1) hx.size) fun e => by have := (hpvlow _ e).1; omega).trans (hx.get h1 fun e => e)
    refine ⟨pv', us ++ [u], by rw [blk_setCell g1]; simp, own_ext hown hx6 fun k hk e => by have := hpv'low k hk; omega, by simp [h3], fun i e' u' hu' he' => ?_⟩
    have hpvnew : ∀ q, q < W5.heap.size → pv.ownBlock ≠ some q → pv'.ownBlock ≠ some q := fun q hq h0 => by
      rcases hnew with e | ⟨q', e, hq'⟩
      · rw [e]; exact h0
      · rw [e]; intro e2; have := Option.some.inj e2; omega
    by_cases hi : i < kn
    · rw [List.getElem?_append_left (by omega)] at hu'
      obtain ⟨a1, a2⟩ := h4 i e' u' hu' he'
      refine ⟨((a1.ext hx fun q _ e => e).ext hx5 fun q hq e => (a2 q hq).2 e).ext hx6 fun q hq e => by have := (a2 q hq).1; omega, fun q hq => ⟨(a2 q hq).1, hpvnew q ?_ (a2 q hq).2⟩⟩
      exact Nat.lt_of_lt_of_le (a1.lt q hq) hx.size
    · have hi' : i = kn := by
        have := (List.getElem?_eq_some_iff.1 hu').1
        simp [h3] at this
        omega
      subst hi'
      rw [he] at he'
      obtain rfl := Option.some.inj he'
      rw [List.getElem?_append_right (by omega), h3] at hu'
      simp at hu'
      subst hu'
      have hq1 : ∀ q, u.ownBlock = some q → pv.ownBlock ≠ some q := fun q hq e => by have := hub q hq; have := (hpvlow q e).2; omega
      refine ⟨(hu.ext hx5 fun q hq e => hq1 q hq e).ext hx6 fun q hq e => by have := hub q hq; omega, fun q hq => ⟨by have := hub q hq; omega, hpvnew q (hu.lt q hq) (hq1 q hq)⟩⟩
theorem PQ.done {W7 : World} (h : PQ W4 W src at_ x m nb kt (plist x).length) {sv : Value} (hx : Ext noB W W') (hsv : TL W' sv (enc (pvs x) x)) (hn : nb < W4.heap.size) (hsn : ∀ q, sv.ownBlock = some q → W4.heap.size ≤ q)
    (hy : Ext (fun q => q < W4.heap.size ∧ q ≠ nb) (W'.setCell ⟨nb, 1, none⟩ sv) W7) : NumBlk W7 nb x := by
  obtain ⟨pv, us, h1, h2, h3, h4⟩ := h.num
  have h1' := hx.get h1 fun e => e
  have h2' := own_ext h2 hx fun _ _ e => e
  have hx6 : Ext (fun q => q = nb) W' (W'.setCell ⟨nb, 1, none⟩ sv) := (Ext.refl (fun q => q = nb) W').setCell (p := ⟨nb, 1, none⟩) (.inl rfl) _
  have h2'' := own_ext (own_ext h2' hx6 fun k hk e => by have := (h2.lt k hk).1; omega) hy fun k hk e => by have := (h2.lt k hk).1; omega
  refine ⟨pv, sv, hy.get (by rw [blk_setCell h1']; simp) (fun e => e.2 rfl), ?_, (hsv.ext hx6 fun q hq e => by have := hsn q hq; omega).ext hy fun q hq e => by have := hsn q hq; omega⟩
  obtain ⟨a, c, rfl⟩ := own_slice h2''
  refine ⟨fun b hb => (h2''.lt b hb).2, a, c, rfl, ?_, fun hne => ?_⟩
  · rcases h2''.2 with ⟨e, e0⟩ | ⟨g, cap, cur, e, _, _, hn', _⟩
    · rw [e0]; omega
    · obtain ⟨_, _, rfl⟩ := Value.slice.inj e; exact hn'
  · obtain ⟨g, cap, e1⟩ := own_form h2'' (by have := List.length_pos_iff.2 hne; omega)
    obtain ⟨rfl, _, rfl⟩ := Value.slice.inj e1
    have hty : TyBlk W7 g 96 := by
      rcases h2''.2 with ⟨e, e0⟩ | ⟨g', cap', cur, e, _, hg, _⟩
      · cases e
      · have : g = g' := by have := (Value.slice.inj e).1; simpa using this
        subst this
        exact ⟨_, _, hg⟩
    refine ⟨g, 0, rfl, fun i e he => ?_, hty⟩
    have hi : i < us.length := by rw [h3]; exact (List.getElem?_eq_some_iff.1 he).1
    have hu : us[i]? = some us[i] := List.getElem?_eq_getElem hi
    obtain ⟨a1, a2⟩ := h4 i e _ hu he
    refine ⟨us[i], ?_, ((a1.ext hx fun q _ e => e).ext hx6 fun q hq e => by have := (a2 q hq).1; omega).ext hy fun q hq e => by have := (a2 q hq).1; omega⟩
    rw [Nat.zero_add]
    exact own_cell h2'' rfl hu
noncomputable def atPrt (x z : Int) (q : Nat) : Nat := (plist z).idxOf ((plist x).getD q 0)
theorem atPrt_idx {x z : Int} {g : Nat} (h : g ∈ plist x) : atPrt x z ((plist x).idxOf g) = (plist z).idxOf g := by
  unfold atPrt
  have hl := List.idxOf_lt_length_of_mem h
  have hi : (plist x)[(plist x).idxOf g]? = some g := by rw [List.getElem?_eq_getElem hl]; simp
  rw [List.getD_eq_getElem?_getD, hi]; rfl
theorem enc_prt {x z y : Int} (hx : ∀ g ∈ exps y, g ∈ plist x) : (enc (pvs x) y).map (fun t => (t.1, atPrt x z t.2)) = enc (pvs z) y := by
  unfold enc
  rw [List.map_map]
  apply List.map_congr_left
  intro t ht
  simp only [Function.comp, pvs_idxOf]
  rw [atPrt_idx (hx _ (mem_exps.2 ⟨t, ht, rfl⟩))]
theorem PQ.ask {z : Nat} {nb : Nat} (h : PQ W4 W src at_ (z : Int) m nb kt kn) (hz : (plist src)[at_]? = some z) {y : Int} (hy : ∀ g ∈ exps y, g ∈ (plist src).take kt ∧ Part g (z : Int)) (hb : at_ ≤ 100000) (hkt : kt ≤ at_) :
    ∀ t ∈ enc (pvs src) y, ∃ pb np pc, (Value.slice (some ⟨m, 0, none⟩) at_ at_) = .slice (some ⟨pb, 0, none⟩) np pc ∧ t.2 < np ∧ np ≤ 100000 ∧ W.cell? ⟨pb, t.2, none⟩ = some (.int .i64 (atPrt src (z : Int) t.2 : Int)) := by
  intro t ht
  obtain ⟨s, hs, rfl⟩ := List.mem_map.1 ht
  obtain ⟨h1, h2⟩ := hy s.2 (mem_exps.2 ⟨s, hs, rfl⟩)
  have hmem : s.2 ∈ plist src := List.mem_of_mem_take h1
  have hi := List.idxOf_lt_length_of_mem h1
  rw [idxOf_take h1] at hi
  have hik : (plist src).idxOf s.2 < kt := by simp at hi; omega
  have hg : (plist src)[(plist src).idxOf s.2]? = some s.2 := by
    have := List.idxOf_lt_length_of_mem hmem
    rw [List.getElem?_eq_getElem this]; simp
  obtain ⟨cs, q1, q2, q3⟩ := h.tab
  refine ⟨m, at_, at_, rfl, ?_, hb, ?_⟩
  · simp only [pvs_idxOf]; omega
  · simp only [pvs_idxOf]
    rw [atPrt_idx hmem]
    exact (cell_of_blk q1 _).trans (q3 _ s.2 hik hg h2)
end Go.Proofs.Ytgchfbfgjanaiaa
