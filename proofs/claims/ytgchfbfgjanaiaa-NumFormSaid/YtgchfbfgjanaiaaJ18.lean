/-
  num.world.next
  a list of terms that a method of a world is making
-/
import Derived.Test.YtgchfbfgjanaiaaJ17
import Derived.Test.YtgchfbfgjanaiaaJ16
set_option linter.unusedSimpArgs false
set_option linter.unusedVariables false
namespace Go.Proofs.Ytgchfbfgjanaiaa
open Go.RowKit Sr
inductive NextIn (U : List Int) : Nat → Prop
  | mk (p : Nat) : (p : Int) + 1 ∈ U → (form (p : Int)).length ≤ 29999 → (∀ q, SumAt (form (p : Int) ++ [(false, 0)]) q → NextIn U q) → NextIn U p
theorem greater_done {w w1 : World} {b : WB} {vs U : List Int} (h : WInv w b vs U) {l : List (Int × Int)} (hl : KeysApart l)
    (hq : ∀ q ∈ l, ∃ i j : Nat, q.1 = i ∧ q.2 = j ∧ ∃ x, vs[i]? = some x ∧ vs[j]? = some (x + 1))
    {i j : Nat} {x : Int} (hi : vs[i]? = some x) (hj : vs[j]? = some (x + 1))
    (hm : MapIs (fun n : Int => Value.int .i64 n) w1 b.r2 (putK l (i : Int) (j : Int))) (hg : w.grownBy w1 (some b.r2)) : WInv w1 b vs U ∧ Ext (fun k => k = b.r2) w w1 := by
  have hext : Ext (fun k => k = b.r2) w w1 := (Ext.refl _ _).grown hg fun k hk => .inl (Option.some.inj hk).symm
  refine ⟨?_, hext⟩
  obtain ⟨a1, a2, a3, a4, a5, a6, a7, a8, a9, a10⟩ := h.apart
  obtain ⟨cap, cur, f1, f2, f3, f4, f5, f6⟩ := h.forms
  exact {
    cl := h.cl, sub := h.sub, room := h.room, apart := h.apart
    forms := ⟨cap, cur, hext.get f1 a3, hext.get f2 a6, f3, f4, f5, fun i x hx => by
      obtain ⟨v, e1, e2, e3⟩ := f6 i x hx
      exact ⟨v, e1, e2.ext hext fun k hk e => e3 k hk (.inr (.inr (.inr (.inl e)))), e3⟩⟩
    places := h.places.same (hext.block b.r1 h.places.lt a8)
    order := by
      obtain ⟨l2, g1, g2⟩ := h.order
      exact ⟨l2, g1.same (hext.block b.r3 g1.lt a10.symm), g2⟩
    greater := ⟨_, hm, hl.put _ _, fun q hq' => by
      unfold putK at hq'
      split at hq'
      · obtain ⟨p, hp, e⟩ := List.mem_map.1 hq'
        split at e
        · rename_i hk
          subst e; exact ⟨i, j, hk, rfl, x, hi, hj⟩
        · subst e; exact hq _ hp
      · rcases List.mem_append.1 hq' with hp | hp
        · exact hq _ hp
        · simp at hp; subst hp; exact ⟨i, j, rfl, rfl, x, hi, hj⟩⟩ }
theorem WStep.of_below {U : List Int} {w w1 : World} {b : WB} {vs : List Int} (h : WInv w b vs U) (hb : Below w.heap.size w w1) : WStep U w w1 b b vs vs :=
  ⟨h.below hb, List.prefix_refl _, Ext.of_below hb, rfl, rfl, rfl, rfl, .inl rfl⟩
set_option maxRecDepth 100000 in
set_option maxHeartbeats 4000000 in
theorem next_step {U : List Int} {p : Nat} (hU : (p : Int) + 1 ∈ U) (hlen : (form (p : Int)).length ≤ 29999) (ih : ∀ q, SumAt (form (p : Int) ++ [(false, 0)]) q → NextOK U q) : NextOK U p := by
  intro w b vs h hp
  obtain ⟨i, hi⟩ : ∃ i : Nat, i = vs.idxOf (p : Int) := ⟨_, rfl⟩
  rw [← hi]
  have hvi : vs[i]? = some (p : Int) := by rw [hi]; exact idxOf_get hp
  obtain ⟨l, m1, m2, m3⟩ := h.greater
  obtain ⟨cap, cur, f1, f2, f3, f4, f5, f6⟩ := h.forms
  have c0 := cell_of_blk f1 0
  have c2 := cell_of_blk f1 2
  simp only [List.getElem?_toArray, List.getElem?_cons_zero, List.getElem?_cons_succ] at c0 c2
  have hlk : (Instr.lookup 104 (.map (some b.r2)) (.int .i64 (i : Int)) true).run Try.prog w = .ok (.tuple #[.int .i64 ((lookK l (i : Int)).getD 0), .bool (lookK l (i : Int)).isSome]) w :=
    run_lookup_ok kk_int Try.underlying104 zero_int m1 (i : Int)
  obtain ⟨v, g1, t1, o1⟩ := f6 i _ hvi
  have d1 : w.cell? ⟨b.f, i, none⟩ = some v := by rw [cell_of_blk f2]; exact g1
  have l1 : i < vs.length := (List.getElem?_eq_some_iff.1 hvi).1
  have hcov : Cov vs (p : Int) := h.cl.cov hp
  have hz : vs.idxOf (0 : Int) = 0 := idxOf_of h.cl.nodup h.cl.zero
  have hz0 : (0 : Int) ∈ vs := List.mem_of_getElem? h.cl.zero
  have H := Sealed.mk h; clear h
  have HP := Sealed.mk (And.intro hp (And.intro hvi (And.intro hcov (And.intro hz (And.intro hz0 hi))))); clear hp hvi hcov hz hz0 hi
  have HM := Sealed.mk (And.intro m2 m3); clear m1 m2 m3
  have HU := Sealed.mk hU; clear hU
  have HLEN := Sealed.mk hlen; clear hlen
  have HIH := Sealed.mk ih; clear ih
  have HT := Sealed.mk (And.intro t1 o1); clear t1 o1
  clear f1 f2 f4 f5 f6 g1
  cases hl : lookK l (i : Int) with
  | some r =>
    rw [hl] at hlk
    simp only [Option.getD_some, Option.isSome_some] at hlk
    have HL := Sealed.mk hl; clear hl
    go_enter Try.func89, Try.ntmps89
    go_wp2
    go_ret
    obtain ⟨i', j', e1, e2, x, hx, hj⟩ := HM.out.2 _ (lookK_mem HL.out)
    simp only at e1 e2
    obtain rfl : i = i' := by omega
    rw [HP.out.2.1] at hx
    obtain rfl := Option.some.inj hx
    have hj' := idxOf_of H.out.cl.nodup hj
    refine ⟨vs, b, ?_, List.mem_of_getElem? hj, WStep.refl H.out, FStep.refl⟩
    rw [hj', ← e2]
    rfl
  | none =>
    rw [hl] at hlk
    simp only [Option.getD_none, Option.isSome_none] at hlk
    clear hl
    have hcl := clone_any HT.out.1
    have HCL := Sealed.mk hcl; clear hcl
    go_enter Try.func89, Try.ntmps89
    go_wp2_with (first
      | (go_at_call 93; go_must (refine HCL.out.mono ?_; rintro e w1 ⟨a1, c1, rfl, hown, hb⟩))
      | (at_builtin; go_must (refine ap_litp (m := 1) el_term (.tmp 27) (.tmp 29) rfl rfl rfl hown rfl (by simp) rfl (by decide) ?g1 ?g2 ?g3 ?g4)))
    case g1 => simp [Value.oneCell']
    case g2 => have := HT.out.1.1; omega
    case g3 => exact hb.size
    case g4 =>
      intro g cap' w2 hown2 hgrow2 hnew2
      have hb2 : Below w.heap.size w w2 := hb.grown hgrow2 hb.size (own_ge hown)
      have hcells : tcells (enc vs (p : Int)) ++ [.bool false, .int .i64 0] = tcells (encL vs (form (p : Int) ++ [(false, 0)])) := by
        have hz := HP.out.2.2.2.1
        simp [encL, tcells_append, tcells, hz, enc]
      have hlen2 : (enc vs (p : Int)).length + 1 = (encL vs (form (p : Int) ++ [(false, 0)])).length := by simp [enc, encL]
      have hown3 : w2.ownsRow w.heap.size 98 2 (.slice (some ⟨g, 0, none⟩) ((enc vs (p : Int)).length + 1) cap') (encL vs (form (p : Int) ++ [(false, 0)])).length (tcells (encL vs (form (p : Int) ++ [(false, 0)]))) := by
        rw [← hlen2, ← hcells]; exact hown2
      have hval : val (form (p : Int) ++ [(false, 0)]) = (p : Int) + 1 := by rw [val_append, val_form]; simp [val, tv]
      have hlt3 : (encL vs (form (p : Int) ++ [(false, 0)])).length ≤ 100000 := by have := HLEN.out; simp [encL]; omega
      have hi2 := H.out.below hb2
      have hs := sum_any hi2 (TL.of_own hown3 hlt3) (by have := HLEN.out; simp; omega) (fun t ht => by
        rcases List.mem_append.1 ht with ht | ht
        · exact HP.out.2.2.1 t ht
        · simp at ht; subst ht; exact HP.out.2.2.2.2.1) (fun k hk hM => by have := (hown3.lt k hk).1; have := H.out.lt k hM; omega) HIH.out
      rw [hval] at hs
      have HS := Sealed.mk hs; clear hs hown3 hcells hown2 hval hlt3 hlen2 hgrow2 hnew2
      have HB2 := Sealed.mk hb2; clear hb2 hb hown
      go_wp2_with (first
        | (go_at_call 73; go_must (refine HS.out.mono ?_; rintro e w3 ⟨vs1, b1, a3, c3, rfl, hown4, hl4, hcov4, hst4, hfs4, hnm4⟩; have hid := id_any hst4.inv (TL.of_own hown4 hl4) hcov4 HU.out hnm4; rw [hst4.p] at hid; have HID := Sealed.mk hid; clear hid; have H4 := Sealed.mk (And.intro hst4 hfs4); clear hst4 hfs4; have HO4 := Sealed.mk hown4; clear hown4))
        | (go_at_call 55; go_must (refine HID.out.mono ?_; rintro e w4 ⟨vs2, b2, rfl, hx4, hst5, hfs5⟩; obtain ⟨idx, hidx⟩ : ∃ idx : Nat, idx = vs2.idxOf ((p : Int) + 1) := ⟨_, rfl⟩; rw [← hidx]; have HIDX := Sealed.mk hidx; clear hidx; obtain ⟨cap5, cur5, f1, -⟩ := hst5.inv.forms; have c5 := cell_of_blk f1 2; rw [hst5.p, H4.out.1.p] at c5; simp only [List.getElem?_toArray, List.getElem?_cons_zero, List.getElem?_cons_succ] at c5; clear f1; obtain ⟨l5, n1, n2, n3⟩ := hst5.inv.greater; have H5 := Sealed.mk (And.intro hst5 (And.intro hfs5 hx4)); clear hst5 hfs5 hx4; have HN := Sealed.mk (And.intro n1 (And.intro n2 n3)); clear n1 n2 n3))
        | (refine wp_update kk_int Try.underlying104 (.tmp 36) (.tmp 37) (.tmp 38) rfl rfl HN.out.2.1 (l := l5) (r := b2.r2) HN.out.1 (i : Int) (idx : Int) rfl rfl rfl ?_))
      intro w5 hm5 hg5
      have hst5 := H5.out.1
      have hvi5 : vs2[i]? = some (p : Int) := getElem?_prefix (H4.out.1.pre.trans hst5.pre) HP.out.2.1
      have hvj5 : vs2[idx]? = some ((p : Int) + 1) := by rw [HIDX.out]; exact idxOf_get H5.out.2.2
      obtain ⟨hinv5, hext5⟩ := greater_done hst5.inv HN.out.2.1 HN.out.2.2 hvi5 hvj5 hm5 hg5
      have HG := Sealed.mk (And.intro hinv5 hext5); clear hinv5 hext5 hm5 hg5 hst5
      go_wp2
      go_ret
      have hst := H4.out.1.trans H5.out.1
      have hap := H5.out.1.inv.apart
      have hst' : WStep U w2 w5 b b2 vs vs2 := ⟨HG.out.1, hst.pre, hst.ext.trans HG.out.2 fun q hq => by
        rcases hst.news q (by rw [hq]; exact .inr (.inr (.inr (.inl rfl)))) with h | h
        · exact .inl h
        · exact .inr h, hst.p, hst.r1, hst.r2, hst.r3, hst.f⟩
      have hfs : FStep noB w2 w5 b b2 vs vs2 := (H4.out.2.trans H5.out.2.1 H4.out.1.ext.size fun q hq => .inr (HO4.out.lt q hq).1).trans (Y := noB) (FStep.same HG.out.2 (H5.out.1.inv.lt b2.f (.inr (.inl rfl))) fun e => hap.2.2.2.2.2.1 e) hst.ext.size fun q hq => hq.elim
      refine ⟨vs2, b2, ?_, H5.out.2.2, ?_, ?_⟩
      · rw [← HIDX.out]; rfl
      · exact (WStep.of_below H.out HB2.out).trans hst'
      · exact (FStep.same (X := noB) (Ext.of_below (M := noB) HB2.out) (H.out.lt b.f (.inr (.inl rfl))) (fun h => h)).trans (Y := noB) hfs HB2.out.size fun q hq => hq.elim
theorem next_any {U : List Int} {p : Nat} (h : NextIn U p) : NextOK U p := by
  induction h with
  | mk p h1 h2 _ ih => exact next_step h1 h2 ih
end Go.Proofs.Ytgchfbfgjanaiaa

namespace Go.Proofs.Ytgchfbfgjanaiaa
open Go.RowKit Sr
structure OI (U : List Int) (w0 : World) (b0 : WB) (vs0 : List Int) (out : Value) (wr : World) (vs1 : List Int) (b1 : WB) (o : List T) : Prop where
  step : WStep U w0 wr b0 b1 vs0 vs1
  emitted : ∀ t ∈ o, (t.2 : Int) ∈ vs1
  own : wr.ownsRow w0.heap.size 98 2 out o.length (tcells (encL vs1 o.reverse))
  free : ∀ k, out.ownBlock = some k → WFree wr b1 vs1 k
  fstep : FStep noB w0 wr b0 b1 vs0 vs1
theorem OI.start {U : List Int} {w : World} {b : WB} {vs : List Int} (h : WInv w b vs U) : OI U w b vs (.slice none 0 0) w vs b [] :=
  ⟨WStep.refl h, by simp, ⟨rfl, .inl ⟨rfl, rfl⟩⟩, by simp [Value.ownBlock], FStep.refl⟩
theorem OI.move {U : List Int} {w0 wr w' : World} {b0 b1 b' : WB} {vs0 vs1 vs' : List Int} {out : Value} {o : List T} (h : OI U w0 b0 vs0 out wr vs1 b1 o) (hs : WStep U wr w' b1 b' vs1 vs') (hf : FStep noB wr w' b1 b' vs1 vs') :
    OI U w0 b0 vs0 out w' vs' b' o where
  step := h.step.trans hs
  emitted := fun t ht => hs.pre.subset (h.emitted t ht)
  own := by
    rw [encL_prefix hs.pre fun t ht => h.emitted t (List.mem_reverse.1 ht)]
    exact own_ext h.own hs.ext fun q hq => (h.free q hq).1
  free := fun q hq => hf q (h.own.lt q hq).2 (fun h => h) (h.free q hq)
  fstep := h.fstep.trans hf h.step.ext.size fun q hq => hq.elim
theorem OI.write {U : List Int} {w0 wr w' : World} {b0 b1 : WB} {vs0 vs1 : List Int} {out out' : Value} {o o' : List T} (h : OI U w0 b0 vs0 out wr vs1 b1 o) (hx : Ext (fun q => out.ownBlock = some q) wr w') (hn : NewOr wr out out')
    (hem : ∀ t ∈ o', (t.2 : Int) ∈ vs1) (hown : w'.ownsRow w0.heap.size 98 2 out' o'.length (tcells (encL vs1 o'.reverse))) : OI U w0 b0 vs0 out' w' vs1 b1 o' where
  step := ⟨h.step.inv.extF hx fun q hq _ => h.free q hq, h.step.pre, h.step.ext.trans hx fun q hq => .inr (h.own.lt q hq).1, h.step.p, h.step.r1, h.step.r2, h.step.r3, h.step.f⟩
  emitted := hem
  own := hown
  free := fun q hq => by
    have hf2 := h.step.inv.lt b1.f (.inr (.inl rfl))
    have hfn : ¬ out.ownBlock = some b1.f := fun e => (h.free _ e).1 (.inr (.inl rfl))
    rcases hn with e | ⟨q', e, hq'⟩
    · exact (h.free q (e ▸ hq)).same hx hf2 hfn
    · rw [e] at hq
      obtain rfl := Option.some.inj hq
      exact (h.step.inv.fresh hq').same hx hf2 hfn
  fstep := h.fstep.trans (Y := noB) (FStep.same hx (h.step.inv.lt b1.f (.inr (.inl rfl))) fun e => (h.free _ e).1 (.inr (.inl rfl))) h.step.ext.size fun q hq => hq.elim
theorem OI.push {U : List Int} {w0 wr w' : World} {b0 b1 : WB} {vs0 vs1 : List Int} {out out' : Value} {o : List T} (h : OI U w0 b0 vs0 out wr vs1 b1 o) (hg : wr.grownBy w' out.ownBlock) (hn : NewOr wr out out') {m : Bool} {e : Nat} (he : (e : Int) ∈ vs1)
    (hown : w'.ownsRow w0.heap.size 98 2 out' (o.length + 1) (tcells (encL vs1 o.reverse) ++ [.bool m, .int .i64 (vs1.idxOf (e : Int) : Nat)])) : OI U w0 b0 vs0 out' w' vs1 b1 ((m, e) :: o) := by
  refine h.write ⟨hg.os, hg.tape, hg.output, hg.size, fun q hq hn => hg.block q hq fun e => hn e.symm⟩ hn ?_ ?_
  · intro t ht
    rcases List.mem_cons.1 ht with rfl | ht
    · exact he
    · exact h.emitted t ht
  · simpa [encL, tcells_append, tcells] using hown
def FormOut (U : List Int) (w : World) (b : WB) (vs : List Int) (x : Int) (e : Ending) (w' : World) : Prop := ∃ vs' b' a c, e = .returned (.slice a (enc vs' x).length c) ∧
      w'.ownsRow w.heap.size 98 2 (.slice a (enc vs' x).length c) (enc vs' x).length (tcells (enc vs' x)) ∧ (enc vs' x).length ≤ 100000 ∧ Cov vs' x ∧
      WStep U w w' b b' vs vs' ∧ FStep noB w w' b b' vs vs' ∧ ∀ k, (Value.slice a (enc vs' x).length c).ownBlock = some k → ¬ b'.M k
theorem OI.done {U : List Int} {w0 wr w' : World} {b0 b1 : WB} {vs0 vs1 : List Int} {a : Option Addr} {c : Nat} {o : List T} (h : OI U w0 b0 vs0 (.slice a o.length c) wr vs1 b1 o) {x : Int} (hx : form x = o) (hl : o.length ≤ 100000)
    (hown : w'.ownsRow w0.heap.size 98 2 (.slice a o.length c) o.length (tcells (encL vs1 o.reverse).reverse)) (hext : Ext (fun k => (Value.slice a o.length c).ownBlock = some k) wr w') :
    FormOut U w0 b0 vs0 x (.returned (.slice a o.length c)) w' := by
  have h1 : (encL vs1 o.reverse).reverse = enc vs1 x := by rw [← encL_form, hx]; simp [encL]
  have h2 : (enc vs1 x).length = o.length := by rw [← encL_form, hx, encL_length]
  have hf : FStep noB wr w' b1 b1 vs1 vs1 := FStep.same hext (h.step.inv.lt b1.f (.inr (.inl rfl))) fun e => (h.free _ e).1 (.inr (.inl rfl))
  rw [h1] at hown
  refine ⟨vs1, b1, a, c, by rw [h2], by rw [h2]; exact hown, by rw [h2]; exact hl, fun t ht => h.emitted t (by rwa [hx] at ht), ?_, h.fstep.trans hf h.step.ext.size fun q hq => hq.elim, fun q hq => (h.free q (by rwa [h2] at hq)).1⟩
  exact ⟨h.step.inv.extF hext fun q hq _ => h.free q hq, h.step.pre, h.step.ext.trans hext fun q hq => .inr (h.own.lt q hq).1, h.step.p, h.step.r1, h.step.r2, h.step.r3, h.step.f⟩
theorem SInv.begin (c : Nat → Int) (x : Int) : SInv x c [] x 0 [] where
  up := List.Pairwise.nil
  low := fun _ x hx => by simp at hx
  sum := by simp [val, tot]
  form := ⟨0, trivial⟩
  next := fun p hp => ⟨trivial, fun t l h => by simp at h⟩
theorem three_lt (e : Nat) : 3 * e < 2 ^ (e + 1) := by
  induction e with
  | zero => decide
  | succ e ih =>
    rw [Nat.pow_succ]
    cases e with
    | zero => decide
    | succ e => omega
theorem SInv.far {S : Int} {c : Nat → Int} {carry : Int} {e : Nat} {o : List T} (h : SInv S c [] carry e o) (hc : carry % 2 ≠ 0) : e < S.natAbs := by
  have h0 : carry ≠ 0 := by intro h; subst h; simp at hc
  have hs := h.sum
  obtain ⟨hu, ht⟩ := h.next e (by simp [nextAt, h0])
  have hb : -(2 ^ e : Int) + 1 ≤ 3 * val o ∧ 3 * val o ≤ 2 ^ e - 1 := by
    have hp := two_pow_pos e
    cases o with
    | nil => simp [val]; omega
    | cons t l =>
      have h1 := ht t l rfl
      have h2 : t.2 + 2 ≤ e := by
        have h3 := hu.1
        by_cases h4 : t.2 + 1 = e
        · have := h1 h4
          simp [hereAt] at this
          omega
        · omega
      have h3 : Under (t.2 + 1) (t :: l) := ⟨by omega, hu.2⟩
      have h5 := under_bound' h3 (show t.2 + 1 ≤ e - 1 by omega)
      rw [show e - 1 + 1 = e by omega] at h5
      exact h5
  have h3 := three_lt e
  simp only [tot] at hs
  have hp := two_pow_pos e
  have e2 : ((2 ^ (e + 1) : Nat) : Int) = 2 * (2 : Int) ^ e := by rw [← pow_succ']; norm_cast
  have key : 2 * (2 : Int) ^ e < 3 * (S.natAbs : Int) := by
    by_cases hneg : carry < 0
    · have : carry * 2 ^ e ≤ -1 * 2 ^ e := Int.mul_le_mul_of_nonneg_right (by omega) (by omega)
      omega
    · have : 1 * 2 ^ e ≤ carry * 2 ^ e := Int.mul_le_mul_of_nonneg_right (by omega) (by omega)
      omega
  have : ((2 ^ (e + 1) : Nat) : Int) < ((3 * S.natAbs : Nat) : Int) := by rw [e2]; push_cast; exact key
  have : 2 ^ (e + 1) < 3 * S.natAbs := by exact_mod_cast this
  omega
def sgn (minus : Bool) (n : Nat) : Int := if minus then -(n : Int) else n
theorem sgn_abs (minus : Bool) (n : Nat) : (sgn minus n).natAbs = n := by cases minus <;> simp [sgn]
section
variable {S : Int} {e n : Nat} {o : List T} {minus : Bool}
theorem hereAt_nil (c : Nat → Int) (k : Int) (e : Nat) : hereAt c [] k e = k := by simp [hereAt]
theorem nextAt_nil {k : Int} (h : k ≠ 0) (e : Nat) : nextAt [] k e = some e := by simp [nextAt, h]
theorem of_even (h : SInv S (fun _ => 0) [] (sgn minus n) e o) (h0 : n ≠ 0) (h2 : n % 2 = 0) : SInv S (fun _ => 0) [] (sgn minus (n / 2)) (e + 1) o := by
  have hn : sgn minus n ≠ 0 := by intro e; have := sgn_abs minus n; rw [e] at this; simp at this; omega
  have := h.even (nextAt_nil hn e) (by rw [hereAt_nil]; exact hn) (by rw [hereAt_nil]; unfold sgn; split <;> omega)
  rw [hereAt_nil] at this
  have e1 : sgn minus n / 2 = sgn minus (n / 2) := by unfold sgn; split <;> omega
  rw [e1] at this
  exact this
theorem of_one (h : SInv S (fun _ => 0) [] (sgn minus n) e o) (h2 : n % 4 = 1) : SInv S (fun _ => 0) [] (sgn minus ((n - 1) / 2)) (e + 1) ((minus, e) :: o) := by
  have hn : sgn minus n ≠ 0 := by intro e; have := sgn_abs minus n; rw [e] at this; simp at this; omega
  have := h.odd (nextAt_nil hn e) (Sr.one minus) (by cases minus <;> simp [Sr.one]) (by rw [hereAt_nil]; cases minus <;> simp [Sr.one, sgn, aboveAt, restAt] <;> omega) (by rw [hereAt_nil]; unfold sgn; split <;> omega)
  rw [hereAt_nil] at this
  have e1 : (sgn minus n - Sr.one minus) / 2 = sgn minus ((n - 1) / 2) := by cases minus <;> simp [Sr.one, sgn] <;> omega
  have e2 : decide (Sr.one minus < 0) = minus := by cases minus <;> simp [Sr.one]
  rw [e1, e2] at this
  exact this
theorem of_three (h : SInv S (fun _ => 0) [] (sgn minus n) e o) (h2 : n % 4 = 3) : SInv S (fun _ => 0) [] (sgn minus (n / 2 + 1)) (e + 1) ((!minus, e) :: o) := by
  have hn : sgn minus n ≠ 0 := by intro e; have := sgn_abs minus n; rw [e] at this; simp at this; omega
  have := h.odd (nextAt_nil hn e) (Sr.one (!minus)) (by cases minus <;> simp [Sr.one]) (by rw [hereAt_nil]; cases minus <;> simp [Sr.one, sgn, aboveAt, restAt] <;> omega) (by rw [hereAt_nil]; unfold sgn; split <;> omega)
  rw [hereAt_nil] at this
  have e1 : (sgn minus n - Sr.one (!minus)) / 2 = sgn minus (n / 2 + 1) := by cases minus <;> simp [Sr.one, sgn] <;> omega
  have e2 : decide (Sr.one (!minus) < 0) = !minus := by cases minus <;> simp [Sr.one]
  rw [e1, e2] at this
  exact this
theorem of_far (h : SInv S (fun _ => 0) [] (sgn minus n) e o) (h2 : n % 2 = 1) : e < S.natAbs := SInv.far h (by unfold sgn; split <;> omega)
end
theorem pow_half {e n : Nat} (he : e ≤ 63) (h : n ≤ 2 ^ (64 - e)) : n ≤ 2 * 2 ^ (64 - (e + 1)) := by
  rw [show 64 - e = (64 - (e + 1)) + 1 by omega, Nat.pow_succ] at h
  omega
end Go.Proofs.Ytgchfbfgjanaiaa
