/-
  num.world.give's placed
  num.world.give's table of places, plain
  num.world.give: the parts in order, plain
  num.world.give: the number in the making
-/
import Derived.Test.YtgchfbfgjanaiaaJ21
import Derived.Test.YtgchfbfgjanaiaaJ04
import Derived.StillTailTactics
import Derived.Test.YtgchfbfgjanaiaaJ20
set_option linter.unusedSimpArgs false
set_option linter.unusedVariables false
namespace Go.Proofs.Ytgchfbfgjanaiaa
open Go.RowKit Sr
set_option maxRecDepth 100000 in
set_option maxHeartbeats 4000000 in
theorem placed_any {w : World} {v : Value} {l : List (Bool × Nat)} (h : TL w v l) {bm mp : Nat} (hv : Var w bm (.map (some mp))) {pl : List (Int × Int)} (hm : MapIs (fun n : Int => Value.int .i64 n) w mp pl) (f : Nat → Nat)
    (hf : ∀ t ∈ l, lookK pl (t.2 : Int) = some (f t.2 : Int)) :
    Calls Try.prog 92 #[v, pt bm] w fun e w' => ∃ a c, e = .returned (.slice a l.length c) ∧ w'.ownsRow w.heap.size 98 2 (.slice a l.length c) l.length (tcells (l.map fun t => (t.1, f t.2))) ∧ Below w.heap.size w w' := by
  have hl := h.1
  have hcl := clone_any h
  obtain ⟨n, hn⟩ : ∃ n, n = l.length := ⟨_, rfl⟩
  rw [← hn] at hl hcl ⊢
  have HCL := Sealed.mk hcl; clear hcl h
  have HN := Sealed.mk hn; clear hn
  have HV := Sealed.mk (And.intro hv (And.intro hm hf)); clear hv hm hf
  unfold pt
  go_enter Try.func92, Try.ntmps92
  go_wp2_with (go_at_call 93; go_must (refine HCL.out.mono ?_; rintro e w1 ⟨a1, c1, rfl, hown, hb⟩))
  have HO1 := Sealed.mk hown; clear hown
  go_loopg [4, 9] n (fun j _ i wr => ∃ k : Nat, j = n - k ∧ k ≤ n ∧ i = .int .i64 (k : Int) ∧ wr.ownsRow w.heap.size 98 2 (.slice a1 n c1) n (tcells (plTo f l k)) ∧ Below w.heap.size w wr)
  case atStart => exact ⟨0, rfl, Nat.zero_le _, rfl, by simpa [plTo] using HO1.out, hb⟩
  case round =>
    obtain ⟨k, rfl, hk, rfl, hown, hb⟩ := hrel
    by_cases hkl : k < n
    · obtain ⟨t, ht⟩ : ∃ t, l[k]? = some t := ⟨_, List.getElem?_eq_getElem (by rw [← HN.out]; exact hkl)⟩
      obtain ⟨g, cap, e1⟩ := own_form hown (by omega)
      obtain ⟨rfl, _, rfl⟩ := Value.slice.inj e1
      have ht' := plTo_at (f := f) ht
      obtain ⟨m, q⟩ := t
      have hlt := own_block hown g rfl
      have h1 := own_cell hown (b := g) rfl (tcells_at _ k _ ht').2
      have h2 := own_free hown (b := g) rfl (k * 2 + 1)
      have c0 : wr.cell? ⟨bm, 0, none⟩ = some (.map (some mp)) := by rw [cell_same (hb.block bm HV.out.1.lt)]; exact HV.out.1.cell
      have hlk := run_lookup kk_int Try.underlying104 zero_int (HV.out.2.1.same (w1 := wr.drew) (hb.block mp HV.out.2.1.lt)) (q : Int)
      rw [HV.out.2.2 _ (List.mem_of_getElem? ht)] at hlk
      simp only [Option.getD_some] at hlk
      have c0' : wr.drew.cell? ⟨bm, 0, none⟩ = some (.map (some mp)) := c0
      have h1' : wr.drew.cell? ⟨g, k * 2 + 1, none⟩ = some (.int .i64 (q : Int)) := h1
      have h2' : wr.drew.frozen? ⟨g, k * 2 + 1, none⟩ = false := h2
      have HO := Sealed.mk (And.intro hown (And.intro hb (And.intro ht ht'))); clear hown hb ht ht' e1 c0 h1 h2
      go_wp2_with fail
      refine wp_region_still_tail 11 (by kernel_rfl) (by kernel_rfl) ?_
      simp only [List.take_succ_cons, List.take_zero, List.drop_succ_cons, List.drop_zero]
      repeat still_step
      refine wpStill_nil ?_
      change wpList _ _ _ _ _ wr.drew
      go_wp2_with fail
      go_roundg (n - (k + 1))
      case measure => omega
      case rel =>
        obtain ⟨hown, hb, ht, ht'⟩ := HO.out
        exact ⟨k + 1, rfl, by omega, by push_cast; rfl, by rw [plTo_succ ht, tcells_set2 _ _ _ _ ht']; exact own_set (w := wr.drew) hown rfl (by omega) _, Below.setCell (w := wr.drew) ⟨hb.os, hb.tape, hb.output, hb.size, hb.block⟩ (own_ge hown g rfl) _⟩
    · have HO := Sealed.mk (And.intro hown hb); clear hown hb
      go_wp2_with fail
      go_ret
      obtain ⟨hown, hb⟩ := HO.out
      refine ⟨a1, c1, rfl, ?_, hb⟩
      have e : k = l.length := by rw [← HN.out]; omega
      rw [e] at hown
      simpa [plTo] using hown
end Go.Proofs.Ytgchfbfgjanaiaa

namespace Go.Proofs.Ytgchfbfgjanaiaa
open Go.RowKit Sr
structure Tab (vs : List Int) (l : List Nat) (tl : List (Int × Int)) : Prop where
  apart : KeysApart tl
  look : ∀ e : Nat, (e : Int) ∈ vs → lookK tl (vs.idxOf (e : Int) : Nat) = if e ∈ l then some (l.idxOf e : Int) else none
theorem Tab.nil (vs : List Int) : Tab vs [] [] := ⟨List.Pairwise.nil, by simp [lookK]⟩
theorem Tab.push {vs : List Int} {l : List Nat} {tl : List (Int × Int)} (h : Tab vs l tl) {e : Nat} (he : (e : Int) ∈ vs) (hn : e ∉ l) : Tab vs (l ++ [e]) (putK tl (vs.idxOf (e : Int) : Nat) (l.length : Int)) where
  apart := h.apart.put _ _
  look := fun f hf => by
    rw [lookK_putK]
    by_cases hfe : f = e
    · subst hfe
      simp [List.idxOf_append, hn]
    · have : ¬ ((vs.idxOf (f : Int) : Nat) : Int) = (vs.idxOf (e : Int) : Nat) := fun q => hfe (by have := idxOf_inj hf (Int.ofNat_inj.1 q); omega)
      rw [if_neg this, h.look f hf]
      by_cases hl : f ∈ l
      · simp [hl, List.idxOf_append]
      · simp [hl, hfe]
end Go.Proofs.Ytgchfbfgjanaiaa

namespace Go.Proofs.Ytgchfbfgjanaiaa
open Go.RowKit Sr
theorem sorted_parts {vs : List Int} {x : Int} {ps ys : List Nat} (hv : ∀ e ∈ ps, (e : Int) ∈ vs) (hm : ∀ e, e ∈ ps ↔ Part e x) (hp : ys.Perm (ps.map fun e : Nat => vs.idxOf (e : Int))) (hr : Rising vs ys) :
    ys = (plist x).map fun e : Nat => vs.idxOf (e : Int) := by
  have hval : ∀ i ∈ ys, ∃ e ∈ ps, vs.idxOf (e : Int) = i := fun i hi => by
    have := hp.mem_iff.1 hi
    obtain ⟨e, he, rfl⟩ := List.mem_map.1 this
    exact ⟨e, he, rfl⟩
  have hget : ∀ i ∈ ys, ((vs.getD i 0).toNat : Int) ∈ vs ∧ vs.idxOf ((vs.getD i 0).toNat : Int) = i ∧ (vs.getD i 0).toNat ∈ ps := fun i hi => by
    obtain ⟨e, he, rfl⟩ := hval i hi
    have h1 := idxOf_get (hv e he)
    have h2 : vs.getD (vs.idxOf (e : Int)) 0 = (e : Int) := by rw [List.getD_eq_getElem?_getD, h1]; rfl
    rw [h2, Int.toNat_natCast]
    exact ⟨hv e he, rfl, he⟩
  have hes : plist x = ys.map fun i => (vs.getD i 0).toNat := by
    refine plist_of ?_ ?_
    · rw [List.pairwise_map]
      refine List.Pairwise.imp_of_mem ?_ hr
      intro i j hi hj h
      obtain ⟨i1, i2, _⟩ := hget i hi
      obtain ⟨j1, j2, _⟩ := hget j hj
      have e1 := idxOf_get i1
      have e2 := idxOf_get j1
      rw [i2] at e1
      rw [j2] at e2
      have := h _ _ e1 e2
      omega
    · intro e
      rw [← hm e]
      simp only [List.mem_map]
      constructor
      · rintro ⟨i, hi, rfl⟩
        exact (hget i hi).2.2
      · intro he
        refine ⟨vs.idxOf (e : Int), hp.mem_iff.2 (List.mem_map.2 ⟨e, he, rfl⟩), ?_⟩
        rw [List.getD_eq_getElem?_getD, idxOf_get (hv e he)]
        simp
  rw [hes, List.map_map]
  symm
  calc ys.map _ = ys.map id := List.map_congr_left fun i hi => (hget i hi).2.1
    _ = ys := List.map_id ys
end Go.Proofs.Ytgchfbfgjanaiaa

namespace Go.Proofs.Ytgchfbfgjanaiaa
open Go.RowKit Sr
noncomputable def anew (vs : List Int) (x : Int) (i : Nat) : Nat := (pvs x).idxOf (vs.getD i 0)
theorem anew_idx {vs : List Int} {x : Int} {e : Nat} (h : (e : Int) ∈ vs) : anew vs x (vs.idxOf (e : Int)) = (pvs x).idxOf (e : Int) := by
  unfold anew
  rw [List.getD_eq_getElem?_getD, idxOf_get h]; rfl
theorem Tab.ask {vs : List Int} {x y : Int} {k : Nat} {tl : List (Int × Int)} (h : Tab vs ((plist x).take k) tl) (hc : Cov vs y) (hy : ∀ g ∈ exps y, g ∈ (plist x).take k) : ∀ t ∈ enc vs y, lookK tl (t.2 : Int) = some (anew vs x t.2 : Int) := by
  intro t ht
  obtain ⟨s, hs, rfl⟩ := List.mem_map.1 ht
  have hv : (s.2 : Int) ∈ vs := hc s hs
  have hm := hy s.2 (mem_exps.2 ⟨s, hs, rfl⟩)
  simp only
  rw [h.look s.2 hv, if_pos hm, anew_idx hv, pvs_idxOf, idxOf_take hm]
theorem enc_anew {vs : List Int} {x y : Int} (hy : Cov (pvs x) y) (hp : ∀ e : Nat, Part e x → (e : Int) ∈ vs) : (enc vs y).map (fun t => (t.1, anew vs x t.2)) = enc (pvs x) y :=
  enc_replace hy fun e he => anew_idx (hp e he)
structure PL (W4 W : World) (vs : List Int) (x : Int) (m nb kt kn : Nat) : Prop where
  ext : Ext (fun q => q = m ∨ q = nb) W4 W
  tab : ∃ tl, MapIs (fun n : Int => Value.int .i64 n) W m tl ∧ Tab vs ((plist x).take kt) tl
  num : ∃ pv us, W.heap[nb]? = some (.cells #[pv, .slice none 0 0] 128 (0, 0)) ∧ W.ownsRow W4.heap.size 96 1 pv kn us ∧ us.length = kn ∧
    ∀ (i e : Nat) (u : Value), us[i]? = some u → (plist x)[i]? = some e → TL W u (enc (pvs x) (e : Int)) ∧ ∀ q, u.ownBlock = some q → W4.heap.size ≤ q ∧ pv.ownBlock ≠ some q
variable {W4 W W' : World} {vs : List Int} {x : Int} {m nb kt kn : Nat}
theorem PL.table (h : PL W4 W vs x m nb kt kn) (hm : m < W4.heap.size) (hn : nb < W4.heap.size) (hne : m ≠ nb) (hgr : W.grownBy W' (some m)) {tl : List (Int × Int)} (hmi : MapIs (fun n : Int => Value.int .i64 n) W' m tl) (ht : Tab vs ((plist x).take (kt + 1)) tl) : PL W4 W' vs x m nb (kt + 1) kn where
  ext := h.ext.grown hgr fun k hk => .inl (.inl (Option.some.inj hk).symm)
  tab := ⟨tl, hmi, ht⟩
  num := by
    obtain ⟨pv, us, h1, h2, h3, h4⟩ := h.num
    have hx : Ext (fun q => q = m) W W' := (Ext.refl _ W).grown hgr fun k hk => .inl (Option.some.inj hk).symm
    refine ⟨pv, us, hx.get h1 (fun e => hne e.symm), own_ext h2 hx fun k hk e => by have := (h2.lt k hk).1; omega, h3, fun i e u hu he => ?_⟩
    obtain ⟨a1, a2⟩ := h4 i e u hu he
    exact ⟨a1.ext hx fun q hq e => by have := (a2 q hq).1; omega, a2⟩
theorem PL.keep (h : PL W4 W vs x m nb kt kn) (hx : Ext noB W W') : PL W4 W' vs x m nb kt kn where
  ext := h.ext.trans hx fun _ hb => hb.elim
  tab := by
    obtain ⟨tl, h1, h2⟩ := h.tab
    exact ⟨tl, h1.same (hx.block _ h1.lt fun e => e), h2⟩
  num := by
    obtain ⟨pv, us, h1, h2, h3, h4⟩ := h.num
    refine ⟨pv, us, hx.get h1 (fun e => e), own_ext h2 hx fun k hk e => e, h3, fun i e u hu he => ?_⟩
    obtain ⟨a1, a2⟩ := h4 i e u hu he
    exact ⟨a1.ext hx fun q hq e => e, a2⟩
theorem PL.push {W5 W6 : World} (h : PL W4 W vs x m nb kt kn) (hm : m < W4.heap.size) (hn : nb < W4.heap.size) (hne : m ≠ nb) {pv pv' u : Value} {us : List Value} (h1 : W.heap[nb]? = some (.cells #[pv, .slice none 0 0] 128 (0, 0)))
    (h2 : W.ownsRow W4.heap.size 96 1 pv kn us) (h3 : us.length = kn) (h4 : ∀ (i e : Nat) (u : Value), us[i]? = some u → (plist x)[i]? = some e → TL W u (enc (pvs x) (e : Int)) ∧ ∀ q, u.ownBlock = some q → W4.heap.size ≤ q ∧ pv.ownBlock ≠ some q)
    (hx : Ext noB W W5) {e : Nat} (he : (plist x)[kn]? = some e) (hu : TL W5 u (enc (pvs x) (e : Int))) (hub : ∀ q, u.ownBlock = some q → W.heap.size ≤ q)
    (hgr : W5.grownBy W6 pv.ownBlock) (hnew : NewOr W5 pv pv') (hown : W6.ownsRow W4.heap.size 96 1 pv' (kn + 1) (us ++ [u])) : PL W4 (W6.setCell ⟨nb, 0, none⟩ pv') vs x m nb kt (kn + 1) := by
  have hx5 : Ext (fun q => pv.ownBlock = some q) W5 W6 := ⟨hgr.os, hgr.tape, hgr.output, hgr.size, fun q hq hn => hgr.block q hq fun e => hn e.symm⟩
  have hx6 : Ext (fun q => q = nb) W6 (W6.setCell ⟨nb, 0, none⟩ pv') := (Ext.refl (fun q => q = nb) W6).setCell (p := ⟨nb, 0, none⟩) (.inl rfl) _
  have hpvlow : ∀ q, pv.ownBlock = some q → W4.heap.size ≤ q ∧ q < W.heap.size := fun q hq => h2.lt q hq
  have hpv'low : ∀ q, pv'.ownBlock = some q → W4.heap.size ≤ q := fun q hq => (hown.lt q hq).1
  have s45 : W4.heap.size ≤ W.heap.size := h.ext.size
  refine ⟨((h.ext.trans hx fun _ hb => hb.elim).trans hx5 fun q hq => .inr (hpvlow q hq).1).trans hx6 fun q hq => .inl (.inr hq), ?_, ?_⟩
  · obtain ⟨tl, t1, t2⟩ := h.tab
    refine ⟨tl, t1.same ?_, t2⟩
    have b1 := hx.block m t1.lt fun e => e
    have hm5 : m < W5.heap.size := Nat.lt_of_lt_of_le t1.lt hx.size
    have b2 := hx5.block m hm5 fun e => by have := (hpvlow _ e).1; omega
    exact (hx6.block m (Nat.lt_of_lt_of_le hm5 hx5.size) hne).trans (b2.trans b1)
  · have g1 : W6.heap[nb]? = some (.cells #[pv, .slice none 0 0] 128 (0, 0)) :=
      (hx5.block nb (Nat.lt_of_lt_of_le (lt_of_blk h1) hx.size) fun e => by have := (hpvlow _ e).1; omega).trans (hx.get h1 fun e => e)
    refine ⟨pv', us ++ [u], by rw [blk_setCell g1]; simp, own_ext hown hx6 fun k hk e => by have := hpv'low k hk; omega, by simp [h3], fun i e' u' hu' he' => ?_⟩
    have hpvnew : ∀ q, q < W5.heap.size → pv.ownBlock ≠ some q → pv'.ownBlock ≠ some q := fun q hq h0 => by
      rcases hnew with e | ⟨q', e, hq'⟩
      · rw [e]; exact h0
      · rw [e]; intro e2; have := Option.some.inj e2; omega
    by_cases hi : i < kn
    · rw [List.getElem?_append_left (by omega)] at hu'
      obtain ⟨a1, a2⟩ := h4 i e' u' hu' he'
      refine ⟨((a1.ext hx fun q _ e => e).ext hx5 fun q hq e => (a2 q hq).2 e).ext hx6 fun q hq e => by have := (a2 q hq).1; omega, fun q hq => ⟨(a2 q hq).1, hpvnew q ?_ (a2 q hq).2⟩⟩
      exact Nat.lt_of_lt_of_le (a1.lt q hq) hx.size
    · have hi' : i = kn := by
        have := (List.getElem?_eq_some_iff.1 hu').1
        simp [h3] at this
        omega
      subst hi'
      rw [he] at he'
      obtain rfl := Option.some.inj he'
      rw [List.getElem?_append_right (by omega), h3] at hu'
      simp at hu'
      subst hu'
      have hq1 : ∀ q, u.ownBlock = some q → pv.ownBlock ≠ some q := fun q hq e => by have := hub q hq; have := (hpvlow q e).2; omega
      refine ⟨(hu.ext hx5 fun q hq e => hq1 q hq e).ext hx6 fun q hq e => by have := hub q hq; omega, fun q hq => ⟨by have := hub q hq; omega, hpvnew q (hu.lt q hq) (hq1 q hq)⟩⟩
theorem PL.done {W7 : World} (h : PL W4 W vs x m nb kt (plist x).length) {sv : Value} (hx : Ext noB W W') (hsv : TL W' sv (enc (pvs x) x)) (hn : nb < W4.heap.size) (hsn : ∀ q, sv.ownBlock = some q → W4.heap.size ≤ q)
    (hy : Ext (fun q => q < W4.heap.size ∧ q ≠ nb) (W'.setCell ⟨nb, 1, none⟩ sv) W7) : NumBlk W7 nb x := by
  obtain ⟨pv, us, h1, h2, h3, h4⟩ := h.num
  have h1' := hx.get h1 fun e => e
  have h2' := own_ext h2 hx fun _ _ e => e
  have hx6 : Ext (fun q => q = nb) W' (W'.setCell ⟨nb, 1, none⟩ sv) := (Ext.refl (fun q => q = nb) W').setCell (p := ⟨nb, 1, none⟩) (.inl rfl) _
  have h2'' := own_ext (own_ext h2' hx6 fun k hk e => by have := (h2.lt k hk).1; omega) hy fun k hk e => by have := (h2.lt k hk).1; omega
  refine ⟨pv, sv, hy.get (by rw [blk_setCell h1']; simp) (fun e => e.2 rfl), ?_, (hsv.ext hx6 fun q hq e => by have := hsn q hq; omega).ext hy fun q hq e => by have := hsn q hq; omega⟩
  obtain ⟨a, c, rfl⟩ := own_slice h2''
  refine ⟨fun b hb => (h2''.lt b hb).2, a, c, rfl, ?_, fun hne => ?_⟩
  · rcases h2''.2 with ⟨e, e0⟩ | ⟨g, cap, cur, e, _, _, hn', _⟩
    · rw [e0]; omega
    · obtain ⟨_, _, rfl⟩ := Value.slice.inj e; exact hn'
  · obtain ⟨g, cap, e1⟩ := own_form h2'' (by have := List.length_pos_iff.2 hne; omega)
    obtain ⟨rfl, _, rfl⟩ := Value.slice.inj e1
    have hty : TyBlk W7 g 96 := by
      rcases h2''.2 with ⟨e, e0⟩ | ⟨g', cap', cur, e, _, hg, _⟩
      · cases e
      · have : g = g' := by have := (Value.slice.inj e).1; simpa using this
        subst this
        exact ⟨_, _, hg⟩
    refine ⟨g, 0, rfl, fun i e he => ?_, hty⟩
    have hi : i < us.length := by rw [h3]; exact (List.getElem?_eq_some_iff.1 he).1
    have hu : us[i]? = some us[i] := List.getElem?_eq_getElem hi
    obtain ⟨a1, a2⟩ := h4 i e _ hu he
    refine ⟨us[i], ?_, ((a1.ext hx fun q _ e => e).ext hx6 fun q hq e => by have := (a2 q hq).1; omega).ext hy fun q hq e => by have := (a2 q hq).1; omega⟩
    rw [Nat.zero_add]
    exact own_cell h2'' rfl hu
end Go.Proofs.Ytgchfbfgjanaiaa
