/-
 the reference's world of forms (sandreckonerref01.World) in memory
 sandreckonerref01: sign, Sign, Cmp
 (*sandreckonerref01.World).at
 sandreckonerref01.without
-/
import Derived.Test.YtgchfbfgjanaiaaA04
import Derived.Test.YtgchfbfgjanaiaaA07
import Derived.Deep.LoopGhost
import Derived.Deep.DeepCutAuto
import Derived.StillTailTactics
import Derived.Deep.DeepMust
import Derived.Deep.RegionHeld3
set_option linter.unusedSimpArgs false
set_option linter.unusedVariables false
namespace Go.Proofs.Ytgchfbfgjanaiaa
open Go.RowKit Sr
theorem el_rterm : ElemT Try.prog 42 49 2 (.agg #[.bool false, .int .i64 0]) 16 := ⟨Try.underlying42, by kernel_rfl, rfl, by decide, by decide⟩
theorem el_rterms : ElemT Try.prog 86 42 1 (.slice none 0 0) 24 := ⟨Try.underlying86, by kernel_rfl, rfl, by decide, by decide⟩
structure RReads (w : World) (b o : Nat) (cs : List Value) : Prop where
 reads : Reads w b o cs
 ty : TyBlk w b 49
theorem RReads.same {w w1 : World} {b o : Nat} {cs : List Value} (h : RReads w b o cs) (hb : w1.heap[b]? = w.heap[b]?) : RReads w1 b o cs := ⟨h.reads.same hb, h.ty.same hb⟩
def RTL (w : World) (v : Value) (l : List (Bool × Nat)) : Prop :=
 l.length ≤ 100000 ∧ (∀ b, v.ownBlock = some b → b < w.heap.size) ∧ ∃ a c, v = .slice a l.length c ∧ l.length ≤ c ∧ (l ≠ [] → ∃ b o, a = some ⟨b, o, none⟩ ∧ RReads w b o (tcells l))
theorem RTL.lt {w : World} {v : Value} {l : List (Bool × Nat)} (h : RTL w v l) : ∀ b, v.ownBlock = some b → b < w.heap.size := h.2.1
theorem RTL.same {w w1 : World} {v : Value} {l : List (Bool × Nat)} (h : RTL w v l) (hs : w.heap.size ≤ w1.heap.size) (hb : ∀ b, v.ownBlock = some b → b < w.heap.size → w1.heap[b]? = w.heap[b]?) : RTL w1 v l := by
 obtain ⟨h1, h0, a, c, rfl, h2, h3⟩ := h
 refine ⟨h1, fun b h => Nat.lt_of_lt_of_le (h0 b h) hs, a, c, rfl, h2, fun hl => ?_⟩
 obtain ⟨b, o, rfl, hr⟩ := h3 hl
 exact ⟨b, o, rfl, hr.same (hb b rfl (h0 b rfl))⟩
theorem RTL.ext {M : Nat → Prop} {w w1 : World} {v : Value} {l : List (Bool × Nat)} (h : RTL w v l) (e : Ext M w w1) (hM : ∀ b, v.ownBlock = some b → ¬ M b) : RTL w1 v l :=
 h.same e.size fun b hb hlt => e.block b hlt (hM b hb)
theorem RTL.below {w w1 : World} {v : Value} {l : List (Bool × Nat)} (h : RTL w v l) (e : Below w.heap.size w w1) : RTL w1 v l :=
 h.same e.size fun b _ hlt => e.block b hlt
theorem RTL.cells {w : World} {a : Option Addr} {n c : Nat} {l : List (Bool × Nat)} (h : RTL w (.slice a n c) l) :
  n = l.length ∧ n ≤ 100000 ∧ n ≤ c ∧ ∀ i t, l[i]? = some t → ∃ b o, a = some ⟨b, o, none⟩ ∧ w.cell? ⟨b, o + i * 2, none⟩ = some (.bool t.1) ∧ w.cell? ⟨b, o + i * 2 + 1, none⟩ = some (.int .i64 (t.2 : Int)) := by
 obtain ⟨h1, h0, a', c', hv, h2, h3⟩ := h
 simp only [Value.slice.injEq] at hv
 obtain ⟨rfl, rfl, rfl⟩ := hv
 refine ⟨rfl, h1, h2, fun i t ht => ?_⟩
 obtain ⟨b, o, rfl, hr⟩ := h3 (by intro e; subst e; simp at ht)
 obtain ⟨e1, e2⟩ := tcells_at l i t ht
 exact ⟨b, o, rfl, hr.reads _ _ e1, by rw [Nat.add_assoc]; exact hr.reads _ _ e2⟩
theorem RTL.slice {w : World} {v : Value} {l : List (Bool × Nat)} (h : RTL w v l) : ∃ a n c, v = .slice a n c := by
 obtain ⟨_, _, a, c, rfl, _⟩ := h; exact ⟨a, _, c, rfl⟩
theorem RTL.len {w : World} {v : Value} {l : List (Bool × Nat)} (h : RTL w v l) : ∃ a c, v = .slice a l.length c := by
 obtain ⟨_, _, a, c, rfl, _⟩ := h; exact ⟨a, c, rfl⟩
theorem RTL.nil (w : World) : RTL w (.slice none 0 0) [] := ⟨by simp, fun b h => by simp [Value.ownBlock] at h, none, 0, rfl, Nat.le_refl _, fun h => absurd rfl h⟩
theorem RTL.of_own {w : World} {B : Nat} {v : Value} {l : List (Bool × Nat)} (h : w.ownsRow B 49 2 v l.length (tcells l)) (hl : l.length ≤ 100000) : RTL w v l := by
 have hlt := fun b hb => (h.lt b hb).2
 rcases h.2 with ⟨rfl, h0⟩ | ⟨g, cap, cur, rfl, hb, hg, hn, hc, hs, ht⟩
 ·exact ⟨hl, hlt, none, 0, by rw [h0], by omega, fun hne => absurd (List.eq_nil_of_length_eq_zero h0) hne⟩
 ·refine ⟨hl, hlt, _, cap, rfl, hn, fun _ => ⟨g, 0, rfl, fun j u hu => ?_, ⟨_, _, hg⟩⟩⟩
  have hcell := h.cells (g := g) rfl j u hu
  have : (⟨g, 0, none⟩ : Addr).add j = ⟨g, 0 + j, none⟩ := by unfold Addr.add; split <;> simp_all
  rw [this] at hcell
  exact hcell
structure RB where
 p : Nat
 f : Nat
def RB.M (b : RB) : Nat → Prop := fun k => k = b.p ∨ k = b.f
structure RInv (w : World) (b : RB) (vs U : List Int) : Prop where
 cl : Cl vs
 sub : ∀ x ∈ vs, x ∈ U
 room : U.length ≤ roomW
 forms : ∃ cap cur, w.heap[b.p]? = some (.cells #[.slice (some ⟨b.f, 0, none⟩) vs.length cap] 88 (0, 0)) ∧
  w.heap[b.f]? = some (.cells cur 42 (0, 0)) ∧ vs.length ≤ cap ∧ cap ≤ maxLen ∧ cur.size = cap ∧
  ∀ (i : Nat) (x : Int), vs[i]? = some x → ∃ v, cur[i]? = some v ∧ RTL w v (enc vs x) ∧ ∀ k, v.ownBlock = some k → ¬ b.M k
theorem RInv.length {w : World} {b : RB} {vs U : List Int} (h : RInv w b vs U) : vs.length ≤ roomW :=
 Nat.le_trans (nodup_sub_length h.cl.nodup h.sub) h.room
theorem RInv.apart {w : World} {b : RB} {vs U : List Int} (h : RInv w b vs U) : b.p ≠ b.f := by
 obtain ⟨cap, cur, h1, h2, _⟩ := h.forms
 intro e
 rw [e, h2] at h1
 simp only [Option.some.injEq, Obj.cells.injEq] at h1
 exact absurd h1.2.1 (by decide)
theorem RInv.lt {w : World} {b : RB} {vs U : List Int} (h : RInv w b vs U) : ∀ k, b.M k → k < w.heap.size := by
 obtain ⟨cap, cur, h1, h2, _⟩ := h.forms
 intro k hk
 rcases hk with rfl | rfl
 ·exact lt_of_blk h1
 ·exact lt_of_blk h2
def InForms (w : World) (b : RB) (vs : List Int) (q : Nat) : Prop := ∃ i v, i < vs.length ∧ w.cell? ⟨b.f, i, none⟩ = some v ∧ v.ownBlock = some q
theorem RInv.inForms {w : World} {b : RB} {vs U : List Int} (h : RInv w b vs U) {q : Nat} (hq : InForms w b vs q) : q < w.heap.size ∧ ¬ b.M q := by
 obtain ⟨i, v, hi, hc, hv⟩ := hq
 obtain ⟨cap, cur, h1, h2, h3, h4, h5, h6⟩ := h.forms
 obtain ⟨v', e1, e2, e3⟩ := h6 i vs[i] (List.getElem?_eq_getElem hi)
 rw [cell_of_blk h2, e1] at hc
 obtain rfl := Option.some.inj hc
 exact ⟨e2.lt q hv, e3 q hv⟩
structure RStep (U : List Int) (w w' : World) (b b' : RB) (vs vs' : List Int) : Prop where
 inv : RInv w' b' vs' U
 pre : vs <+: vs'
 ext : Ext b.M w w'
 p : b'.p = b.p
 f : b'.f = b.f ∨ w.heap.size ≤ b'.f
 forms : ∀ q, InForms w' b' vs' q → InForms w b vs q ∨ w.heap.size ≤ q
theorem RStep.news {U : List Int} {w w' : World} {b b' : RB} {vs vs' : List Int} (h : RStep U w w' b b' vs vs') : ∀ k, b'.M k → b.M k ∨ w.heap.size ≤ k := by
 intro k hk
 unfold RB.M at *
 rw [h.p] at hk
 rcases hk with hk | hk
 ·exact .inl (.inl hk)
 ·rcases h.f with hf | hf
  ·exact .inl (.inr (hk.trans hf))
  ·exact .inr (hk ▸ hf)
theorem RStep.refl {U : List Int} {w : World} {b : RB} {vs : List Int} (h : RInv w b vs U) : RStep U w w b b vs vs :=
 ⟨h, List.prefix_refl _, Ext.refl _ _, rfl, .inl rfl, fun _ h => .inl h⟩
theorem RStep.trans {U : List Int} {w w1 w2 : World} {b b1 b2 : RB} {vs vs1 vs2 : List Int} (h : RStep U w w1 b b1 vs vs1) (k : RStep U w1 w2 b1 b2 vs1 vs2) : RStep U w w2 b b2 vs vs2 where
 inv := k.inv
 pre := h.pre.trans k.pre
 ext := h.ext.trans k.ext h.news
 p := k.p.trans h.p
 f := by
   rcases k.f with e | e
   ·rw [e]; exact h.f
   ·exact .inr (Nat.le_trans h.ext.size e)
 forms := fun q hq => by
  rcases k.forms q hq with h1 | h1
  ·exact h.forms q h1
  ·exact .inr (Nat.le_trans h.ext.size h1)
theorem RInv.ext {N : Nat → Prop} {w w1 : World} {b : RB} {vs U : List Int} (h : RInv w b vs U) (e : Ext N w w1) (hN : ∀ k, N k → k < w.heap.size → False) : RInv w1 b vs U where
 cl := h.cl
 sub := h.sub
 room := h.room
 forms := by
  obtain ⟨cap, cur, h1, h2, h3, h4, h5, h6⟩ := h.forms
  refine ⟨cap, cur, e.get h1 (fun hn => hN _ hn (lt_of_blk h1)), e.get h2 (fun hn => hN _ hn (lt_of_blk h2)), h3, h4, h5, fun i x hx => ?_⟩
  obtain ⟨v, hv, ht, hk⟩ := h6 i x hx
  exact ⟨v, hv, ht.same e.size fun b hb hlt => e.block b hlt (fun hn => hN b hn hlt), hk⟩
theorem RInv.below {w w1 : World} {b : RB} {vs U : List Int} (h : RInv w b vs U) (e : Below w.heap.size w w1) : RInv w1 b vs U :=
 h.ext (Ext.of_below (M := noB) e) fun _ hn _ => hn
theorem RInv.other {N : Nat → Prop} {w w1 : World} {b : RB} {vs U : List Int} (h : RInv w b vs U) (e : Ext N w w1) (hN : ∀ k, N k → ∀ t, TyBlk w k t → t ≠ 88 ∧ t ≠ 42 ∧ t ≠ 49) : RInv w1 b vs U where
 cl := h.cl
 sub := h.sub
 room := h.room
 forms := by
  obtain ⟨cap, cur, h1, h2, h3, h4, h5, h6⟩ := h.forms
  refine ⟨cap, cur, e.get h1 (fun hn => (hN _ hn _ ⟨_, _, h1⟩).1 rfl), e.get h2 (fun hn => (hN _ hn _ ⟨_, _, h2⟩).2.1 rfl), h3, h4, h5, fun i x hx => ?_⟩
  obtain ⟨v, hv, ht, hk⟩ := h6 i x hx
  refine ⟨v, hv, ?_, hk⟩
  obtain ⟨t1, t2, a, c, rfl, t3, t4⟩ := ht
  refine ⟨t1, fun b hb => Nat.lt_of_lt_of_le (t2 b hb) e.size, a, c, rfl, t3, fun hne => ?_⟩
  obtain ⟨b', o, rfl, hr⟩ := t4 hne
  exact ⟨b', o, rfl, hr.same (e.block b' (t2 b' rfl) fun hn => (hN _ hn _ hr.ty).2.2 rfl)⟩
theorem RInv.more {w : World} {b : RB} {vs U V : List Int} (h : RInv w b vs U) (hs : ∀ x ∈ U, x ∈ V) (hr : V.length ≤ roomW) : RInv w b vs V := ⟨h.cl, fun x hx => hs x (h.sub x hx), hr, h.forms⟩
theorem RStep.kept {U : List Int} {w w1 : World} {b : RB} {vs : List Int} (h : RInv w b vs U) (hb : Below w.heap.size w w1) : RStep U w w1 b b vs vs :=
 ⟨h.below hb, List.prefix_refl _, Ext.of_below hb, rfl, .inl rfl, fun q hq => by
  obtain ⟨i, v, hi, hc, hv⟩ := hq
  exact .inl ⟨i, v, hi, by rw [← cell_same (hb.block _ (h.lt b.f (.inr rfl))) i]; exact hc, hv⟩⟩
theorem RInv.put {w w1 : World} {b : RB} {vs U : List Int} {g : Nat} (h : RInv w b vs U) (e : Ext (fun k => k = g) w w1) (hg : ¬ b.M g) (hn : ¬ InForms w b vs g) : RInv w1 b vs U where
 cl := h.cl
 sub := h.sub
 room := h.room
 forms := by
  obtain ⟨cap, cur, h1, h2, h3, h4, h5, h6⟩ := h.forms
  refine ⟨cap, cur, e.get h1 (fun hn => hg (.inl hn.symm)), e.get h2 (fun hn => hg (.inr hn.symm)), h3, h4, h5, fun i x hx => ?_⟩
  obtain ⟨v, hv, ht, hk⟩ := h6 i x hx
  exact ⟨v, hv, ht.same e.size fun q hq hlt => e.block q hlt fun hh => hn ⟨i, v, (List.getElem?_eq_some_iff.1 hx).1, by rw [cell_of_blk h2]; exact hv, by rw [← hh]; exact hq⟩, hk⟩
theorem RStep.put {U : List Int} {w w1 w2 : World} {b b1 : RB} {vs vs1 : List Int} {g : Nat} (h : RStep U w w1 b b1 vs vs1) (e : Ext (fun k => k = g) w1 w2) (hg : ¬ b1.M g) (hn : ¬ InForms w1 b1 vs1 g) (hw : w.heap.size ≤ g) : RStep U w w2 b b1 vs vs1 where
 inv := h.inv.put e hg hn
 pre := h.pre
 ext := h.ext.trans e fun q hq => .inr (by have hq' : q = g := hq; omega)
 p := h.p
 f := h.f
 forms := fun q hq => by
  obtain ⟨i, v, hi, hc, hv⟩ := hq
  refine h.forms q ⟨i, v, hi, ?_, hv⟩
  have hf := h.inv.lt b1.f (.inr rfl)
  rw [← cell_same (e.block _ hf fun hh => hg (.inr hh.symm)) i]; exact hc
theorem RInv.pos {w : World} {b : RB} {vs U : List Int} (h : RInv w b vs U) : 0 < vs.length := by
 have := h.cl.zero
 exact (List.getElem?_eq_some_iff.1 this).1
theorem RInv.room_push {w : World} {b : RB} {vs U : List Int} (h : RInv w b vs U) {x : Int} (hx : x ∉ vs) (hU : x ∈ U) : vs.length + 1 ≤ roomW := by
 have := nodup_sub_length (a := x :: vs) (b := U) (List.nodup_cons.2 ⟨hx, h.cl.nodup⟩) fun y hy => by
  rcases List.mem_cons.1 hy with rfl | hy
  ·exact hU
  ·exact h.sub y hy
 have := h.room
 simp only [List.length_cons] at *
 omega
theorem RTL.step {U : List Int} {w w' : World} {b b' : RB} {vs vs' : List Int} {v : Value} {l : List (Bool × Nat)} (h : RTL w v l) (s : RStep U w w' b b' vs vs') (hv : ∀ k, v.ownBlock = some k → ¬ b.M k) : RTL w' v l :=
 h.ext s.ext hv
theorem RTL.notM {U : List Int} {w : World} {b : RB} {vs : List Int} {v : Value} {l : List (Bool × Nat)} (h : RTL w v l) (hi : RInv w b vs U) (hl : l ≠ []) : ∀ k, v.ownBlock = some k → ¬ b.M k := by
 obtain ⟨_, _, a, c, rfl, _, h3⟩ := h
 obtain ⟨b', o, rfl, hr⟩ := h3 hl
 obtain ⟨cs, fz, e⟩ := hr.ty
 obtain ⟨cap, cur, h1, h2, _⟩ := hi.forms
 intro k hk hM
 have hkb : b' = k := Option.some.inj hk
 subst hkb
 rcases hM with rfl | rfl
 ·rw [h1] at e; simp only [Option.some.injEq, Obj.cells.injEq] at e; exact absurd e.2.1 (by decide)
 ·rw [h2] at e; simp only [Option.some.injEq, Obj.cells.injEq] at e; exact absurd e.2.1 (by decide)
theorem own_rforms {w : World} {b : RB} {vs : List Int} {cap : Nat} {cur : Array Value} (f2 : w.heap[b.f]? = some (.cells cur 42 (0, 0))) (f3 : vs.length ≤ cap) (f4 : cap ≤ maxLen) (f5 : cur.size = cap) :
  w.ownsRow 0 42 1 (.slice (some ⟨b.f, 0, none⟩) vs.length cap) vs.length (cur.toList.take vs.length) :=
 ⟨by simp; omega, .inr ⟨b.f, cap, cur, rfl, Nat.zero_le _, f2, f3, f4, by omega, by simp⟩⟩
theorem r_al {w W : World} {o : Obj} (h : Below w.heap.size w W) : Below w.heap.size w (W.alloc o) := h.alloc h.size o
theorem r_dr {w W : World} (h : Below w.heap.size w W) : Below w.heap.size w W.drew := ⟨h.os, h.tape, h.output, h.size, h.block⟩
theorem r_chain {w w1 w2 : World} (h : Below w.heap.size w w1) (k : Below w1.heap.size w1 w2) : Below w.heap.size w w2 := h.trans ⟨k.os, k.tape, k.output, k.size, fun q hq => k.block q (Nat.lt_of_lt_of_le hq h.size)⟩
theorem step_ap_blk {P : Program} {ops : Array Oper} {o : Oper} {a : Act} {K : Act → World → Prop} {Q : Exit → Act → World → Prop} {X : Prop} {t e size bytes : Nat} {z : Value} (E : ElemT P t e size z bytes) {W : World} {B n m c : Nat} {v : Value} {xs : List Value} (s x : Operand) (hgd : o.guard = none)
  (ho : o.op = .call { callee := .builtin .append, args := #[s, x], argTypes := #[t, t] }) (hs : a.eval s = v) (hown : W.ownsRow B e size v n xs)
  {b off : Nat} (hx : a.eval x = .slice (some ⟨b, off, none⟩) m c) {news : List Value} (hl : news.length = m * size) (hr : Reads W b off news) (h1 : ∀ u ∈ news, u.oneCell' = true) (hm : 0 < m)
  (hn : n + m ≤ 1000000000) (hB : B ≤ W.heap.size)
  (h : ∀ g cap w', w'.ownsRow B e size (.slice (some ⟨g, 0, none⟩) (n + m) cap) (n + m) (xs ++ news) → W.grownBy w' v.ownBlock → NewOr W v (.slice (some ⟨g, 0, none⟩) (n + m) cap) → K (a.put o.dst (.slice (some ⟨g, 0, none⟩) (n + m) cap)) w') :
  if Region.wanted o (yielded ops a.tmps) = true then Oper.wp P o a W K Q else X := by
 obtain ⟨i0, hi, hzz⟩ := Option.map_eq_some_iff.1 E.info
 simp only [Prod.mk.injEq] at hzz
 obtain ⟨hz0, hz1, hz2⟩ := hzz
 have hsm := E.small
 have hmul : (n + m) * bytes ≤ 1000000000 * 64 := Nat.mul_le_mul hn E.small
 refine step_append_lies _ hgd s x t ho B e i0 z size bytes E.ht hi hz0 hz1 hz2 E.hz E.pos v n xs hs hown ⟨b, off, none⟩ m c news hx hl (fun j u' hu => ?_) h1 hm (by unfold maxLen; omega) (by omega) hB _ rfl fun g cap w' q1 q2 q3 q4 => h g cap w' q1 q2 ?_
 ·have : (⟨b, off, none⟩ : Addr).add j = ⟨b, off + j, none⟩ := by unfold Addr.add; split <;> simp_all
  rw [this]
  exact hr j u' hu
 ·rcases q3 with q3 | q3
  ·exact .inl (by rw [q3]; rfl)
  ·exact .inr ⟨g, rfl, by rw [q3]; exact Nat.le_refl _⟩
theorem r_push {U vs : List Int} {w wr w1 w2 : World} {b : RB} {x : Int} {v : Value} {cap cap' g : Nat} {cur : Array Value}
  (hb : Below w.heap.size w wr) (hw : RInv wr b vs U) (hwl : ∀ k, b.M k → k < w.heap.size) (hl : RTL wr v (enc vs x)) (hc : Cov vs x) (hx : x ∉ vs) (hU : x ∈ U) (hv : ∀ k, v.ownBlock = some k → ¬ b.M k) (hv2 : ∀ k, v.ownBlock = some k → w.heap.size ≤ k) (hwi : b.f < w.heap.size)
  (hf : wr.heap[b.p]? = some (.cells #[.slice (some ⟨b.f, 0, none⟩) vs.length cap] 88 (0, 0)) ∧
   wr.heap[b.f]? = some (.cells cur 42 (0, 0)) ∧ vs.length ≤ cap ∧ cap ≤ maxLen ∧ cur.size = cap ∧
   ∀ (i : Nat) (x : Int), vs[i]? = some x → ∃ v, cur[i]? = some v ∧ RTL wr v (enc vs x) ∧ ∀ k, v.ownBlock = some k → ¬ b.M k)
  (ho : w1.ownsRow 0 42 1 (.slice (some ⟨g, 0, none⟩) (vs.length + 1) cap') (vs.length + 1) (cur.toList.take vs.length ++ [v]))
  (hg : wr.grownBy w1 (some b.f)) (hn : g = b.f ∨ wr.heap.size ≤ g)
  (h2p : w2.heap[b.p]? = some (.cells #[.slice (some ⟨g, 0, none⟩) (vs.length + 1) cap'] 88 (0, 0)))
  (h2 : Ext (fun k => k = b.p) w1 w2) :
  RStep U w w2 b { b with f := g } vs (vs ++ [x]) := by
 obtain ⟨f1, f2, f3, f4, f5, f6⟩ := hf
 have a1 := hw.apart
 have hlt := hw.lt
 have hp : b.p < wr.heap.size := hlt _ (.inl rfl)
 have gp : g ≠ b.p := by rcases hn with rfl | hn <;> omega
 have s1 := hg.size
 have s2 := h2.size
 have keep1 : ∀ k, k < w1.heap.size → k ≠ b.p → w2.heap[k]? = w1.heap[k]? := fun k hk h1 => h2.block k hk h1
 have keep : ∀ k, k < wr.heap.size → k ≠ b.p → k ≠ b.f → w2.heap[k]? = wr.heap[k]? := fun k hk h1 h3' =>
  (keep1 k (by omega) h1).trans (hg.block k hk (fun e => h3' (Option.some.inj e)))
 have hpre : vs <+: vs ++ [x] := List.prefix_append _ _
 refine ⟨⟨hw.cl.push hx hc, ?_, hw.room, ?_⟩, hpre, ?_, rfl, ?_, ?_⟩
 ·intro y hy
  rcases List.mem_append.1 hy with hy | hy
  ·exact hw.sub y hy
  ·simp at hy; subst hy; exact hU
 ·rcases ho.2 with ⟨e, _⟩ | ⟨g', cap2, cur2, e, _, o1, o2, o3, o4, o5⟩
  ·simp at e
  ·simp only [Value.slice.injEq, Option.some.injEq, Addr.mk.injEq, true_and, and_true] at e
   obtain ⟨rfl, rfl⟩ := e
   have hg1 : g < w1.heap.size := lt_of_blk o1
   have hcl : vs.length ≤ cur.toList.length := by simp; omega
   refine ⟨cap', cur2, ?_, ?_, by simpa using o2, o3, by omega, ?_⟩
   ·rw [List.length_append]
    exact h2p
   ·exact (keep1 g hg1 gp).trans o1
   ·intro i y hy
    by_cases hi : i < vs.length
    ·rw [List.getElem?_append_left hi] at hy
     obtain ⟨u, hu, ht, hk⟩ := f6 i y hy
     refine ⟨u, ?_, ?_, ?_⟩
     ·have := congrArg (fun z => z[i]?) o5
      simp only [Nat.mul_one] at this
      rw [List.getElem?_take_of_lt (by omega), List.getElem?_append_left (by simp; omega), List.getElem?_take_of_lt hi] at this
      simpa [hu] using this
     ·rw [enc_prefix hpre (hw.cl.cov (List.mem_of_getElem? hy))]
      exact ht.same (by omega) fun k hk' hlt' => keep k hlt' (fun e => hk k hk' (.inl e)) (fun e => hk k hk' (.inr e))
     ·intro k hk' hM
      have hkl := ht.lt k hk'
      rcases hM with e | e
      ·exact hk k hk' (.inl e)
      ·simp only at e
       rcases hn with rfl | hn
       ·exact hk k hk' (.inr e)
       ·omega
    ·rw [List.getElem?_append_right (by omega)] at hy
     have h0 : i - vs.length = 0 := by
      rcases Nat.eq_zero_or_pos (i - vs.length) with h0 | h0
      ·exact h0
      ·rw [List.getElem?_eq_none (by simp; omega)] at hy; simp at hy
     have hie : i = vs.length := by omega
     rw [h0] at hy
     simp at hy
     subst hy
     subst hie
     refine ⟨v, ?_, ?_, ?_⟩
     ·have := congrArg (fun z => z[vs.length]?) o5
      simp only [Nat.mul_one] at this
      rw [List.getElem?_take_of_lt (by omega), List.getElem?_append_right (by simp; omega)] at this
      have h0 : vs.length - min vs.length cur.size = 0 := by simp at hcl; omega
      simpa [h0] using this
     ·rw [enc_prefix hpre hc]
      exact hl.same (by omega) fun k hk' hlt' => keep k hlt' (fun e => hv k hk' (.inl e)) (fun e => hv k hk' (.inr e))
     ·intro k hk' hM
      have hkl := hl.lt k hk'
      rcases hM with e | e
      ·exact hv k hk' (.inl e)
      ·simp only at e
       rcases hn with rfl | hn
       ·exact hv k hk' (.inr e)
       ·omega
 ·have hx2 : Ext (fun k => k = b.f) wr w1 := ⟨hg.os, hg.tape, hg.output, hg.size, fun q hq hn => hg.block q hq fun e => hn (Option.some.inj e)⟩
  exact ((Ext.of_below (M := b.M) hb).trans hx2 fun q h => .inl (.inr h)).trans h2 fun q h => .inl (.inl h)
 ·rcases hn with rfl | hn
  ·exact .inl rfl
  ·exact .inr (Nat.le_trans hb.size hn)
 ·rintro q ⟨i, v', hi, hc, hq⟩
  rcases ho.2 with ⟨e, _⟩ | ⟨g', cap2, cur2, e, _, o1, o2, o3, o4, o5⟩
  ·simp at e
  ·simp only [Value.slice.injEq, Option.some.injEq, Addr.mk.injEq, true_and, and_true] at e
   obtain ⟨rfl, rfl⟩ := e
   have hg1 : g < w1.heap.size := lt_of_blk o1
   have hcl : vs.length ≤ cur.toList.length := by simp; omega
   simp only at hc
   rw [cell_of_blk ((keep1 g hg1 gp).trans o1)] at hc
   simp only [List.length_append, List.length_singleton] at hi
   by_cases hi2 : i < vs.length
   ·have := congrArg (fun z => z[i]?) o5
    simp only [Nat.mul_one] at this
    rw [List.getElem?_take_of_lt (by omega), List.getElem?_append_left (by simp; omega), List.getElem?_take_of_lt hi2] at this
    have h8 : cur[i]? = some v' := by rw [← hc]; simpa using this.symm
    exact .inl ⟨i, v', hi2, by rw [← cell_same (hb.block _ hwi) i, cell_of_blk f2]; exact h8, hq⟩
   ·obtain rfl : i = vs.length := by omega
    have := congrArg (fun z => z[vs.length]?) o5
    simp only [Nat.mul_one] at this
    rw [List.getElem?_take_of_lt (by omega), List.getElem?_append_right (by simp; omega)] at this
    have h0 : vs.length - min vs.length cur.size = 0 := by simp at hcl; omega
    have h8 : cur2[vs.length]? = some v := by simpa [h0] using this
    rw [h8] at hc
    obtain rfl := Option.some.inj hc
    exact .inr (hv2 q hq)
end Go.Proofs.Ytgchfbfgjanaiaa

namespace Go.Proofs.Ytgchfbfgjanaiaa
open Go.RowKit Sr
theorem rsign_any (m : Bool) (w : World) : Calls Try.prog 96 #[.bool m] w fun e w' => e = .returned (.int .i64 (one m)) ∧ w' = w := by
 cases m
 ·go_enter Try.func96, Try.ntmps96
  go_wp2
  go_ret
  exact ⟨rfl, rfl⟩
 ·go_enter Try.func96, Try.ntmps96
  go_wp2
  go_ret
  exact ⟨rfl, rfl⟩
theorem RInv.form {w : World} {b : RB} {vs U : List Int} (h : RInv w b vs U) {i : Nat} {x : Int} (hi : vs[i]? = some x) :
  ∃ cap a c, w.cell? ⟨b.p, 0, none⟩ = some (.slice (some ⟨b.f, 0, none⟩) vs.length cap) ∧ vs.length ≤ cap ∧ i < vs.length ∧ w.cell? ⟨b.f, i, none⟩ = some (.slice a (enc vs x).length c) ∧ RTL w (.slice a (enc vs x).length c) (enc vs x) ∧
    ∀ k, (Value.slice a (enc vs x).length c).ownBlock = some k → ¬ b.M k := by
 obtain ⟨cap, cur, h1, h2, h3, h4, h5, h6⟩ := h.forms
 obtain ⟨v, hv, ht, hk⟩ := h6 i x hi
 obtain ⟨a, c, rfl⟩ := ht.len
 exact ⟨cap, a, c, (cell_of_blk h1 0).trans rfl, h3, (List.getElem?_eq_some_iff.1 hi).1, (cell_of_blk h2 i).trans hv, ht, hk⟩
set_option maxRecDepth 100000 in
set_option maxHeartbeats 1000000 in
theorem rSign_any {w : World} {b : RB} {vs U : List Int} (h : RInv w b vs U) {i : Nat} {x : Int} (hi : vs[i]? = some x) :
  Calls Try.prog 60 #[.pointer (some ⟨b.p, 0, none⟩), .int .i64 (i : Int)] w fun e w' => e = .returned (.int .i64 (sg x)) ∧ w' = w := by
 obtain ⟨cap, a, c, c0, hcap, hil, c1, ht, -⟩ := h.form hi
 have hsg := sgnT_enc vs x
 obtain ⟨l, hl⟩ : ∃ l, l = enc vs x := ⟨_, rfl⟩
 rw [← hl] at hsg ht c1
 clear h hi hl
 obtain ⟨hn, hn1, hnc, hcell⟩ := ht.cells
 clear ht
 cases l with
 | nil =>
   rw [← hsg]
   clear hn hn1 hcell hsg
   go_enter Try.func60, Try.ntmps60
   go_wp2
   go_ret
   exact ⟨rfl, rfl⟩
 | cons t l =>
   obtain ⟨bb, o, rfl, h0, _⟩ := hcell 0 t rfl
   simp only [Nat.zero_mul, Nat.add_zero] at h0
   obtain ⟨m, k⟩ := t
   rw [← hsg]
   have hs := rsign_any m
   have HS := Sealed.mk hs; clear hs
   obtain ⟨n, hnn⟩ : ∃ n, n = l.length := ⟨_, rfl⟩
   simp only [List.length_cons, ← hnn] at c1 hnc hn1
   have h00 : (((n + 1 : Nat) : Int) == 0) = false := by simp; omega
   clear hcell hn hsg hnn
   go_enter Try.func60, Try.ntmps60
   go_wp2_with (go_at_call 96; go_must (refine (HS.out _).mono ?_; rintro e w1 ⟨rfl, rfl⟩))
   go_ret
   exact ⟨rfl, rfl⟩
set_option maxRecDepth 100000 in
set_option maxHeartbeats 4000000 in
theorem rCmp_step {U vs : List Int} {b : RB} {i j : Nat} {x y : Int} (hi : vs[i]? = some x) (hj : vs[j]? = some y)
  (ih : ∀ (i' j' : Nat) (e f : Nat), e ∈ exps x → f ∈ exps y → vs[i']? = some (e : Int) → vs[j']? = some (f : Int) → ∀ w, RInv w b vs U →
   Calls Try.prog 86 #[.pointer (some ⟨b.p, 0, none⟩), .int .i64 (i' : Int), .int .i64 (j' : Int)] w fun r w' => r = .returned (.int .i64 (sg ((e : Int) - f))) ∧ ∃ m, w' = w.drewN m)
  {w : World} (h : RInv w b vs U) :
  Calls Try.prog 86 #[.pointer (some ⟨b.p, 0, none⟩), .int .i64 (i : Int), .int .i64 (j : Int)] w fun r w' => r = .returned (.int .i64 (sg (x - y))) ∧ ∃ m, w' = w.drewN m := by
 obtain ⟨cap, a1, c1, f0, hcap, hil, f1, ht1, -⟩ := h.form hi
 obtain ⟨cap', a2, c2, f0', hcap', hjl, f2, ht2, -⟩ := h.form hj
 rw [f0] at f0'
 have hxc := h.cl.cov (List.mem_of_getElem? hi)
 have hyc := h.cl.cov (List.mem_of_getElem? hj)
 have hdec := fun k => decide_enc (i := k) hxc hyc
 have hinj : enc vs x = enc vs y → x = y := fun e => enc_inj hxc e
 have hp : Below w.heap.size w w := Below.refl _ _
 obtain ⟨la, hla⟩ : ∃ l, l = enc vs x := ⟨_, rfl⟩
 obtain ⟨lb, hlb⟩ : ∃ l, l = enc vs y := ⟨_, rfl⟩
 rw [← hla] at hdec hinj f1 ht1
 rw [← hlb] at hdec hinj f2 ht2
 obtain ⟨na, hna⟩ : ∃ n, n = la.length := ⟨_, rfl⟩
 obtain ⟨nb, hnb⟩ : ∃ n, n = lb.length := ⟨_, rfl⟩
 obtain ⟨-, hna1, hna2, hca⟩ := ht1.cells
 obtain ⟨-, hnb1, hnb2, hcb⟩ := ht2.cells
 rw [← hna] at f1 hna1 hna2
 rw [← hnb] at f2 hnb1 hnb2
 have HH := Sealed.mk (And.intro h @ih)
 have HC := Sealed.mk (And.intro hca hcb)
 have HD := Sealed.mk (And.intro hdec (And.intro hinj (And.intro hna hnb)))
 clear f0' hcap' hla hlb ht1 ht2 hca hcb hxc hyc hdec hinj hna hnb h ih hi hj hp
 go_enter Try.func86, Try.ntmps86
 go_wp2_with fail
 have g0 : ∀ m, (w.drewN m).cell? ⟨b.p, 0, none⟩ = some (.slice (some ⟨b.f, 0, none⟩) vs.length cap) := fun _ => f0
 have g1 : ∀ m, (w.drewN m).cell? ⟨b.f, i, none⟩ = some (.slice a1 na c1) := fun _ => f1
 have g2 : ∀ m, (w.drewN m).cell? ⟨b.f, j, none⟩ = some (.slice a2 nb c2) := fun _ => f2
 have hi0 : (i : Int) < (vs.length : Int) := by omega
 have hj0 : (j : Int) < (vs.length : Int) := by omega
 go_quiet (fail)
 go_wp2_with fail
 go_loopg [9] na (fun jj iv W => ∃ k : Nat, jj = na - k ∧ k ≤ na ∧ k ≤ nb ∧ iv = .int .i64 (k : Int) ∧ la.take k = lb.take k ∧ ∃ m, W = w.drewN m)
 case atStart => exact ⟨0, rfl, Nat.zero_le _, Nat.zero_le _, rfl, rfl, _, rfl⟩
 case round =>
  obtain ⟨k, rfl, hk1, hk2, rfl, hk, m, rfl⟩ := hrel
  have HK := Sealed.mk hk; clear hk
  have hl1 := HD.out.2.2.1
  have hl2 := HD.out.2.2.2
  have hsame : ∀ q, (w.drewN q).heap = w.heap := fun _ => rfl
  by_cases ha : k < na
  ·have ha' : (k : Int) < (na : Int) := by omega
   have bA : decide ((k : Int) < (na : Int)) = true := decide_eq_true ha'
   have bAe : ((k : Int) == (na : Int)) = false := by simp; omega
   obtain ⟨s, hs⟩ : ∃ s, la[k]? = some s := ⟨_, List.getElem?_eq_getElem (by omega)⟩
   obtain ⟨ba, oa, rfl, ca0, ca1⟩ := HC.out.1 k s hs
   obtain ⟨m1, p1⟩ := s
   dsimp only at ca0 ca1
   have ca0' : ∀ q, (w.drewN q).cell? ⟨ba, oa + k * 2, none⟩ = some (.bool m1) := fun _ => ca0
   have ca1' : ∀ q, (w.drewN q).cell? ⟨ba, oa + k * 2 + 1, none⟩ = some (.int .i64 (p1 : Int)) := fun _ => ca1
   by_cases hb : k < nb
   ·have hb' : (k : Int) < (nb : Int) := by omega
    have bB : decide ((k : Int) < (nb : Int)) = true := decide_eq_true hb'
    have bBe : ((k : Int) == (nb : Int)) = false := by simp; omega
    obtain ⟨t, ht⟩ : ∃ t, lb[k]? = some t := ⟨_, List.getElem?_eq_getElem (by omega)⟩
    obtain ⟨bb, ob, rfl, cb0, cb1⟩ := HC.out.2 k t ht
    obtain ⟨m2, p2⟩ := t
    dsimp only at cb0 cb1
    have cb0' : ∀ q, (w.drewN q).cell? ⟨bb, ob + k * 2, none⟩ = some (.bool m2) := fun _ => cb0
    have cb1' : ∀ q, (w.drewN q).cell? ⟨bb, ob + k * 2 + 1, none⟩ = some (.int .i64 (p2 : Int)) := fun _ => cb1
    have HS := Sealed.mk (And.intro hs ht)
    have hs1 := rsign_any m1
    have RS := Sealed.mk hs1
    clear hs ht hl1 hl2 hs1
    by_cases hm : m1 = m2
    ·subst hm
     by_cases hp : p1 = p2
     ·subst hp
      go_wp2_with fail
      go_quiet (fail)
      go_wp2_with fail
      go_roundg (na - (k + 1))
      case measure => omega
      case rel => exact ⟨k + 1, rfl, by omega, by omega, by push_cast; rfl, by rw [take_snoc HS.out.1, take_snoc HS.out.2, HK.out], _, rfl⟩
     ·have hq := HD.out.1 k HK.out (by rw [HS.out.1, HS.out.2]; simp [hp])
      rw [← HD.out.2.2.1, ← HD.out.2.2.2] at hq
      obtain ⟨c, hc, hq1, hq2⟩ := hq
      obtain ⟨e, f, q1, q2, q3, q4, rfl⟩ := hq2 ha hb
      have e1 : la.getD k (false, 0) = (m1, p1) := by rw [List.getD_eq_getElem?_getD, HS.out.1]; rfl
      have e2 : lb.getD k (false, 0) = (m1, p2) := by rw [List.getD_eq_getElem?_getD, HS.out.2]; rfl
      rw [e1] at q3 hq1
      rw [e2] at q4 hq1
      dsimp only at q3 q4
      have hr : sg (x - y) = one m1 * sg ((e : Int) - f) := by rw [hq1]; simp [decideT, ha, hb]
      have hcall : ∀ q, Calls Try.prog 86 #[.pointer (some ⟨b.p, 0, none⟩), .int .i64 (p1 : Int), .int .i64 (p2 : Int)] (w.drewN q) fun r w' => r = .returned (.int .i64 (sg ((e : Int) - f))) ∧ ∃ m, w' = (w.drewN q).drewN m := fun q =>
       HH.out.2 _ _ e f q1 q2 q3 q4 _ (HH.out.1.below ⟨rfl, rfl, rfl, Nat.le_refl _, fun _ _ => rfl⟩)
      have hpn : ((p1 : Int) == (p2 : Int)) = false := by simp; omega
      have hsgb := sg_abs ((e : Int) - f)
      obtain ⟨c, hcc⟩ : ∃ c, c = sg ((e : Int) - f) := ⟨_, rfl⟩
      rw [← hcc] at hr hcall hsgb
      have hw1 : IntKind.i64.wrap (one m1 * c) = one m1 * c := by rw [IntKind.wrap_i64]; cases m1 <;> simp [one] <;> omega
      have hw2 : wrap64 (one m1 * c) = one m1 * c := by unfold wrap64; cases m1 <;> simp [one] <;> omega
      have HCL := Sealed.mk (And.intro hcall hr)
      clear hcall hr q1 q2 q3 q4 hq1 hq2 e1 e2 hc hcc
      go_wp2_with fail
      go_quiet (fail)
      go_wp2_with fail
      go_quiet (fail)
      go_upto_region 11 with fail
      generalize hW1 : World.drewN _ _ = W1
      have d0 : W1.cell? ⟨ba, oa + k * 2, none⟩ = some (.bool m1) := by rw [← hW1]; exact ca0
      have d1 : W1.cell? ⟨ba, oa + k * 2 + 1, none⟩ = some (.int .i64 (p1 : Int)) := by rw [← hW1]; exact ca1
      have d2 : W1.cell? ⟨bb, ob + k * 2, none⟩ = some (.bool m1) := by rw [← hW1]; exact cb0
      have d3 : W1.cell? ⟨bb, ob + k * 2 + 1, none⟩ = some (.int .i64 (p2 : Int)) := by rw [← hW1]; exact cb1
      have hfin : ∃ n, W1 = w.drewN n := by rw [← hW1, World.drewN_drewN]; exact ⟨_, rfl⟩
      obtain ⟨n0, hn0⟩ := hfin
      have hcall : ∀ q, Calls Try.prog 86 #[.pointer (some ⟨b.p, 0, none⟩), .int .i64 (p1 : Int), .int .i64 (p2 : Int)] (W1.drewN q) fun r w' => r = .returned (.int .i64 c) ∧ ∃ m, w' = (W1.drewN q).drewN m := fun q => by
       rw [hn0]
       have := HCL.out.1 (n0 + q)
       simpa only [World.drewN_drewN] using this
      have hfin : ∃ n, W1 = w.drewN n := ⟨n0, hn0⟩
      clear hn0
      have HF := Sealed.mk (And.intro hcall hfin)
      clear hcall hfin hW1
      go_quiet (first
       | (go_at_call 96; exact Calls.quiet_of_same (RS.out _))
       | (go_at_call 86; exact Calls.quiet_of (HF.out.1 _)))
      go_wp2_with fail
      go_ret
      obtain ⟨q, hq⟩ := HF.out.2
      exact ⟨congrArg (fun z => Ending.returned (.int .i64 z)) HCL.out.2.symm, q + _, by rw [hq, World.drewN_drewN]⟩
    ·have hq := HD.out.1 k HK.out (by rw [HS.out.1, HS.out.2]; simp [hm])
     rw [← HD.out.2.2.1, ← HD.out.2.2.2] at hq
     obtain ⟨c, hc, hq1, -⟩ := hq
     have e1 : la.getD k (false, 0) = (m1, p1) := by rw [List.getD_eq_getElem?_getD, HS.out.1]; rfl
     have e2 : lb.getD k (false, 0) = (m2, p2) := by rw [List.getD_eq_getElem?_getD, HS.out.2]; rfl
     rw [e1, e2] at hq1
     have hr : sg (x - y) = one m1 := by rw [hq1]; simp [decideT, ha, hb, hm]
     have HCL := Sealed.mk hr
     have hmb : (m1 == m2) = false := by simpa using hm
     clear hq1 e1 e2 hr hc
     go_wp2_with fail
     go_quiet (fail)
     go_wp2_with fail
     go_quiet (fail)
     go_wp2_with (go_at_call 96; go_must (refine (RS.out _).mono ?_; rintro e w1 ⟨rfl, rfl⟩))
     go_ret
     exact ⟨congrArg (fun z => Ending.returned (.int .i64 z)) HCL.out.symm, _, rfl⟩
   ·have hb' : ¬ (k : Int) < (nb : Int) := by omega
    have bB : decide ((k : Int) < (nb : Int)) = false := decide_eq_false hb'
    have hbe : k = nb := by omega
    have hq := HD.out.1 k HK.out (by rw [hs, List.getElem?_eq_none (by omega)]; simp)
    rw [← HD.out.2.2.1, ← HD.out.2.2.2] at hq
    obtain ⟨c, hc, hq1, -⟩ := hq
    have e1 : la.getD k (false, 0) = (m1, p1) := by rw [List.getD_eq_getElem?_getD, hs]; rfl
    rw [e1] at hq1
    have hr : sg (x - y) = one m1 := by rw [hq1]; simp [decideT, ha, hb]
    have HCL := Sealed.mk hr
    have hs1 := rsign_any m1
    have RS := Sealed.mk hs1
    have bBe : ((k : Int) == (nb : Int)) = true := by simp; omega
    clear hq1 e1 hr hc hs hl1 hl2 hs1 hbe
    go_wp2_with fail
    go_quiet (fail)
    go_wp2_with fail
    go_quiet (fail)
    go_wp2_with (go_at_call 96; go_must (refine (RS.out _).mono ?_; rintro e w1 ⟨rfl, rfl⟩))
    go_ret
    exact ⟨congrArg (fun z => Ending.returned (.int .i64 z)) HCL.out.symm, _, rfl⟩
  ·have ha' : ¬ (k : Int) < (na : Int) := by omega
   have bA : decide ((k : Int) < (na : Int)) = false := decide_eq_false ha'
   have bAe : ((k : Int) == (na : Int)) = true := by simp; omega
   by_cases hb : k < nb
   ·have hb' : (k : Int) < (nb : Int) := by omega
    have bB : decide ((k : Int) < (nb : Int)) = true := decide_eq_true hb'
    have bBe : ((k : Int) == (nb : Int)) = false := by simp; omega
    obtain ⟨t, ht⟩ : ∃ t, lb[k]? = some t := ⟨_, List.getElem?_eq_getElem (by omega)⟩
    obtain ⟨bb, ob, rfl, cb0, cb1⟩ := HC.out.2 k t ht
    obtain ⟨m2, p2⟩ := t
    dsimp only at cb0 cb1
    have cb0' : ∀ q, (w.drewN q).cell? ⟨bb, ob + k * 2, none⟩ = some (.bool m2) := fun _ => cb0
    have hq := HD.out.1 k HK.out (by rw [ht, List.getElem?_eq_none (by omega)]; simp)
    rw [← HD.out.2.2.1, ← HD.out.2.2.2] at hq
    obtain ⟨c, hc, hq1, -⟩ := hq
    have e2 : lb.getD k (false, 0) = (m2, p2) := by rw [List.getD_eq_getElem?_getD, ht]; rfl
    rw [e2] at hq1
    have hr : sg (x - y) = -one m2 := by rw [hq1]; simp [decideT, ha]
    have HCL := Sealed.mk hr
    have hs1 := rsign_any m2
    have RS := Sealed.mk hs1
    have hw1 : IntKind.i64.wrap (-one m2) = -one m2 := by rw [IntKind.wrap_i64]; cases m2 <;> simp [one]
    have hw2 : wrap64 (-one m2) = -one m2 := by unfold wrap64; cases m2 <;> simp [one]
    clear hq1 e2 hr hc ht hl1 hl2 hs1
    go_wp2_with fail
    go_quiet (fail)
    go_wp2_with (go_at_call 96; go_must (refine (RS.out _).mono ?_; rintro e w1 ⟨rfl, rfl⟩))
    go_ret
    refine ⟨?_, _, rfl⟩
    first
     | exact congrArg (fun z => Ending.returned (.int .i64 z)) HCL.out.symm
     | (rw [HCL.out]; simp [hw1, hw2])
   ·have hb' : ¬ (k : Int) < (nb : Int) := by omega
    have bB : decide ((k : Int) < (nb : Int)) = false := decide_eq_false hb'
    have bBe : ((k : Int) == (nb : Int)) = true := by simp; omega
    have hr : sg (x - y) = 0 := by
     have h := HK.out
     rw [List.take_of_length_le (by omega), List.take_of_length_le (by omega)] at h
     rw [HD.out.2.1 h, Int.sub_self]; rfl
    have HCL := Sealed.mk hr
    clear hr hl1 hl2
    go_wp2_with fail
    go_quiet (fail)
    go_wp2_with fail
    go_ret
    exact ⟨congrArg (fun z => Ending.returned (.int .i64 z)) HCL.out.symm, _, rfl⟩
theorem rCmp_any {U vs : List Int} {b : RB} : ∀ (n : Nat) {i j : Nat} {x y : Int}, x.natAbs + y.natAbs < n → vs[i]? = some x → vs[j]? = some y → ∀ {w : World}, RInv w b vs U →
  Calls Try.prog 86 #[.pointer (some ⟨b.p, 0, none⟩), .int .i64 (i : Int), .int .i64 (j : Int)] w fun r w' => r = .returned (.int .i64 (sg (x - y))) ∧ ∃ m, w' = w.drewN m
 | 0, _, _, _, _, h, _, _, _, _ => absurd h (by omega)
 | n + 1, i, j, x, y, h, hi, hj, w, hw => rCmp_step hi hj (fun i' j' e f he hf hi' hj' w hw => by
     have h1 := exps_lt he
     have h2 := exps_lt hf
     exact rCmp_any n (by simp; omega) hi' hj' hw) hw
theorem rCmp_at {U vs : List Int} {b : RB} {i j : Nat} {x y : Int} (hi : vs[i]? = some x) (hj : vs[j]? = some y) {w : World} (hw : RInv w b vs U) :
  Calls Try.prog 86 #[.pointer (some ⟨b.p, 0, none⟩), .int .i64 (i : Int), .int .i64 (j : Int)] w fun r w' => r = .returned (.int .i64 (sg (x - y))) ∧ ∃ m, w' = w.drewN m :=
 rCmp_any _ (Nat.lt_succ_self _) hi hj hw
end Go.Proofs.Ytgchfbfgjanaiaa

namespace Go.Proofs.Ytgchfbfgjanaiaa
open Go.RowKit Sr
theorem r_done {w w1 : World} {b : RB} {vs U : List Int} (h : RInv w b vs U) {m : Nat} (e : w1 = w.drewN m) : RStep U w w1 b b vs vs := by
 subst e
 exact RStep.kept h ⟨rfl, rfl, rfl, Nat.le_refl _, fun _ _ => rfl⟩
set_option maxRecDepth 100000 in
set_option maxHeartbeats 4000000 in
theorem rAt_any {U vs : List Int} {b : RB} {x : Int} {w : World} {v : Value} (h : RInv w b vs U) (hl : RTL w v (enc vs x)) (hc : Cov vs x) (hU : x ∈ U) :
  Calls Try.prog 50 #[.pointer (some ⟨b.p, 0, none⟩), v] w fun e w' => ∃ vs' b', e = .returned (.int .i64 (vs'.idxOf x : Nat)) ∧ x ∈ vs' ∧ RStep U w w' b b' vs vs' := by
 obtain ⟨a1, c1, rfl⟩ := hl.len
 have hinj : ∀ y ∈ vs, enc vs y = enc vs x → y = x := fun y hy e => enc_inj (h.cl.cov hy) e
 have hidx : ∀ {i : Nat}, vs[i]? = some x → vs.idxOf x = i := fun e => idxOf_of h.cl.nodup e
 obtain ⟨cap, cur, F1, F2, F3, F4, F5, F6⟩ := h.forms
 have f0 : w.cell? ⟨b.p, 0, none⟩ = some (.slice (some ⟨b.f, 0, none⟩) vs.length cap) := (cell_of_blk F1 0).trans rfl
 have H := Sealed.mk (And.intro h (And.intro hl (And.intro hc hU)))
 have HF := Sealed.mk (And.intro F1 (And.intro F2 (And.intro F3 (And.intro F4 (And.intro F5 F6)))))
 obtain ⟨l, hle⟩ : ∃ l, l = enc vs x := ⟨_, rfl⟩
 rw [← hle] at hl hinj ⊢
 obtain ⟨-, hn1, hnc, hcl⟩ := hl.cells
 obtain ⟨n, hn⟩ : ∃ n, n = l.length := ⟨_, rfl⟩
 rw [← hn] at hn1 hnc ⊢
 obtain ⟨N, hN⟩ : ∃ N, N = vs.length := ⟨_, rfl⟩
 have hlen := h.length
 unfold roomW at hlen
 rw [← hN] at f0 hlen
 have hNc : N ≤ cap := by omega
 have HC := Sealed.mk (And.intro hcl (And.intro hn (And.intro hle (And.intro hinj (And.intro @hidx hN)))))
 clear hcl hn hle hinj hidx hl h hc hU F1 F2 F3 F4 F5 F6 hN
 go_enter Try.func50, Try.ntmps50
 go_wp2_with fail
 go_loopg [5] N (fun jj iv W => ∃ i : Nat, jj = N - i ∧ i ≤ N ∧ iv = .int .i64 (i : Int) ∧ (∀ y ∈ vs.take i, y ≠ x) ∧ ∃ m, W = w.drewN m)
 case atStart => exact ⟨0, rfl, Nat.zero_le _, rfl, by simp, 0, rfl⟩
 case round =>
  obtain ⟨i, rfl, hi, rfl, hno, m, rfl⟩ := hrel
  have HNO := Sealed.mk hno; clear hno
  by_cases hiN : i < N
  ·obtain ⟨y, hy⟩ : ∃ y, vs[i]? = some y := ⟨_, List.getElem?_eq_getElem (by have := HC.out.2.2.2.2.2; omega)⟩
   obtain ⟨cap', a2, c2, f0', -, hil, f1, ht, -⟩ := H.out.1.form hy
   obtain ⟨ly, hly⟩ : ∃ l, l = enc vs y := ⟨_, rfl⟩
   rw [← hly] at f1 ht
   obtain ⟨-, hy1, hyc, hcy⟩ := ht.cells
   obtain ⟨ny, hny⟩ : ∃ n, n = ly.length := ⟨_, rfl⟩
   rw [← hny] at f1 hy1 hyc
   have HY := Sealed.mk (And.intro hy (And.intro hly (And.intro hny hcy)))
   clear hy hly hny hcy ht f0'
   have hiN' : (i : Int) < (N : Int) := by omega
   have hnext : ∀ y', vs[i]? = some y' → y' ≠ x → ∀ z ∈ vs.take (i + 1), z ≠ x := fun y' h1 h2 z hz => by
    rw [take_snoc h1] at hz
    rcases List.mem_append.1 hz with hz | hz
    ·exact HNO.out z hz
    ·obtain rfl := List.mem_singleton.1 hz; exact h2
   have HNX := Sealed.mk hnext; clear hnext
   go_wp2_with fail
   go_loopg [7] n (fun jj kv W => ∃ k : Nat, jj = n - k ∧ k ≤ n ∧ (0 < k → ny = n) ∧ kv = .int .i64 (k : Int) ∧ ly.take k = l.take k ∧ ∃ m, W = w.drewN m)
   case atStart => exact ⟨0, rfl, Nat.zero_le _, fun h => absurd h (by omega), rfl, rfl, m, rfl⟩
   case round =>
    obtain ⟨k, rfl, hk, hkn, rfl, hkt, m', rfl⟩ := hrel
    have HK := Sealed.mk (And.intro hkt hkn); clear hkt hkn
    by_cases hnn : ny = n
    ·have bN : ((ny : Int) == (n : Int)) = true := by simp [hnn]
     by_cases hkl : k < n
     ·have hkl' : (k : Int) < (n : Int) := by omega
      have hkl2 : (k : Int) < (ny : Int) := by omega
      have bK : decide ((k : Int) < (n : Int)) = true := decide_eq_true hkl'
      have bKe : ((k : Int) == (n : Int)) = false := by simp; omega
      obtain ⟨⟨m1, p1⟩, hs⟩ : ∃ s, ly[k]? = some s := ⟨_, List.getElem?_eq_getElem (by have := HY.out.2.2.1; omega)⟩
      obtain ⟨⟨m2, p2⟩, ht⟩ : ∃ s, l[k]? = some s := ⟨_, List.getElem?_eq_getElem (by have := HC.out.2.1; omega)⟩
      obtain ⟨ba, oa, rfl, ca0, ca1⟩ := HY.out.2.2.2 k _ hs
      obtain ⟨bb, ob, rfl, cb0, cb1⟩ := HC.out.1 k _ ht
      dsimp only at ca0 ca1 cb0 cb1
      have ca0' : ∀ q, (w.drewN q).cell? ⟨ba, oa + k * 2, none⟩ = some (.bool m1) := fun _ => ca0
      have ca1' : ∀ q, (w.drewN q).cell? ⟨ba, oa + k * 2 + 1, none⟩ = some (.int .i64 (p1 : Int)) := fun _ => ca1
      have cb0' : ∀ q, (w.drewN q).cell? ⟨bb, ob + k * 2, none⟩ = some (.bool m2) := fun _ => cb0
      have cb1' : ∀ q, (w.drewN q).cell? ⟨bb, ob + k * 2 + 1, none⟩ = some (.int .i64 (p2 : Int)) := fun _ => cb1
      have HS := Sealed.mk (And.intro hs ht); clear hs ht
      by_cases hm : m1 = m2
      ·subst hm
       by_cases hp : p1 = p2
       ·subst hp
        have HNN := Sealed.mk hnn; clear hnn
        go_wp2_with fail
        go_quiet (fail)
        go_wp2_with fail
        go_roundg (n - (k + 1))
        case measure => omega
        case rel => exact ⟨k + 1, rfl, by omega, fun _ => HNN.out, by push_cast; rfl, by rw [take_snoc HS.out.1, take_snoc HS.out.2, HK.out.1], _, rfl⟩
       ·have hpn : ((p1 : Int) == (p2 : Int)) = false := by simp; omega
        have hne : ly ≠ l := fun e => by
         have h1 := HS.out.1
         rw [e, HS.out.2] at h1
         simp at h1
         exact hp h1.symm
        have HNE := Sealed.mk (And.intro hnn hne); clear hnn hne
        go_wp2_with fail
        go_quiet (fail)
        go_wp2_with fail
        go_roundg (N - (i + 1))
        case measure => omega
        case rel => exact ⟨i + 1, rfl, by omega, by push_cast; rfl, HNX.out y HY.out.1 (fun e => HNE.out.2 (by rw [HY.out.2.1, HC.out.2.2.1, e])), _, rfl⟩
      ·have hmb : (m1 == m2) = false := by simpa using hm
       have hne : ly ≠ l := fun e => by
        have h1 := HS.out.1
        rw [e, HS.out.2] at h1
        simp at h1
        exact hm h1.1.symm
       have HNE := Sealed.mk (And.intro hnn hne); clear hnn hne
       go_wp2_with fail
       go_quiet (fail)
       go_wp2_with fail
       go_roundg (N - (i + 1))
       case measure => omega
       case rel => exact ⟨i + 1, rfl, by omega, by push_cast; rfl, HNX.out y HY.out.1 (fun e => HNE.out.2 (by rw [HY.out.2.1, HC.out.2.2.1, e])), _, rfl⟩
     ·have hkl' : ¬ (k : Int) < (n : Int) := by omega
      have bK : decide ((k : Int) < (n : Int)) = false := decide_eq_false hkl'
      have bKe : ((k : Int) == (n : Int)) = true := by simp; omega
      have hxy : y = x := by
       have h1 := HK.out.1
       rw [List.take_of_length_le (by have := HY.out.2.2.1; omega), List.take_of_length_le (by have := HC.out.2.1; omega)] at h1
       rw [HY.out.2.1] at h1
       exact HC.out.2.2.2.1 y (List.mem_of_getElem? HY.out.1) h1
      have HXY := Sealed.mk (And.intro hnn hxy); clear hnn hxy
      go_wp2_with fail
      go_quiet (fail)
      go_wp2_with fail
      go_ret
      have h1 := HY.out.1
      rw [HXY.out.2] at h1
      exact ⟨vs, b, congrArg (fun z : Nat => Ending.returned (.int .i64 (z : Int))) (HC.out.2.2.2.2.1 h1).symm, List.mem_of_getElem? h1, r_done H.out.1 (by first | rfl | exact World.drewN_drewN)⟩
    ·have hk0 : k = 0 := by
      rcases Nat.eq_zero_or_pos k with h | h
      ·exact h
      ·exact absurd (HK.out.2 h) hnn
     have bN : ((ny : Int) == (n : Int)) = false := by simp; omega
     have hne : ly ≠ l := fun e => hnn (by rw [HY.out.2.2.1, HC.out.2.1, e])
     have HNE := Sealed.mk hne; clear hne
     go_wp2_with fail
     go_quiet (fail)
     go_wp2_with fail
     go_roundg (N - (i + 1))
     case measure => omega
     case rel => exact ⟨i + 1, rfl, by omega, by push_cast; rfl, HNX.out y HY.out.1 (fun e => HNE.out (by rw [HY.out.2.1, HC.out.2.2.1, e])), _, rfl⟩
  ·obtain rfl : i = N := by omega
   have hx : x ∉ vs := fun hx => by
    have := HNO.out x (by rw [HC.out.2.2.2.2.2, List.take_length]; exact hx)
    exact this rfl
   have HX := Sealed.mk hx; clear hx
   go_upto_region 10 with fail
   obtain ⟨W, hW⟩ : ∃ W, W = w.drewN m := ⟨_, rfl⟩
   have e0 : Below w.heap.size w W := by rw [hW]; exact ⟨rfl, rfl, rfl, Nat.le_refl _, fun _ _ => rfl⟩
   rw [← hW]
   clear hW
   have hne : l ≠ [] := fun e => HX.out (by
    have h0 : x = 0 := by
     have := HC.out.2.2.1
     rw [e] at this
     have h1 : form x = [] := by
      cases hf : form x with
      | nil => rfl
      | cons t l => simp [enc, hf] at this
     exact form_eq_nil.1 h1
    rw [h0]; exact List.mem_of_getElem? H.out.1.cl.zero)
   have hn0 : 0 < n := by rw [HC.out.2.1]; exact List.length_pos_iff.2 hne
   have hl0 := H.out.2.1
   rw [← HC.out.2.2.1] at hl0
   obtain ⟨-, -, a', c', e1, -, hrd⟩ := hl0
   obtain ⟨rfl, -, rfl⟩ := Value.slice.inj e1
   obtain ⟨ba, oa, rfl, hrr⟩ := hrd hne
   have hba : ba < w.heap.size := H.out.2.1.lt ba rfl
   have hrW : ∀ W', Below W.heap.size W W' → Reads W' ba oa (tcells l) := fun W' hb => hrr.reads.same (((r_chain e0 hb).block _ hba))
   have hcW : ∀ W', Below W.heap.size W W' → W'.cell? ⟨b.p, 0, none⟩ = some (.slice (some ⟨b.f, 0, none⟩) i cap) := fun W' hb => (cell_same ((r_chain e0 hb).block _ (lt_of_cell f0)) 0).trans f0
   have hfW : ∀ W', Below W.heap.size W W' → W'.ownsRow 0 42 1 (.slice (some ⟨b.f, 0, none⟩) i cap) i (cur.toList.take i) := fun W' hb => by
    have := own_rforms (w := W') (((r_chain e0 hb).block _ (lt_of_blk HF.out.2.1)).trans HF.out.2.1) HF.out.2.2.1 HF.out.2.2.2.1 HF.out.2.2.2.2.1
    rw [← HC.out.2.2.2.2.2] at this
    exact this
   have hll : (tcells l).length = n * 2 := by rw [tcells_length, HC.out.2.1]
   have hroom := H.out.1.room_push HX.out H.out.2.2.2
   unfold roomW at hroom
   rw [← HC.out.2.2.2.2.2] at hroom
   have K := Sealed.mk (And.intro hrW (And.intro hcW (And.intro hfW (And.intro hll (And.intro (tcells_one l) (And.intro e0 hne))))))
   clear hrW hcW hfW hll e0 hne hrr hrd f0 hba
   have d0 := K.out.2.1 _ (r_dr (Below.refl _ _))
   have d1 := K.out.2.1 _ (r_dr (r_al (o := .cells #[] 49) (Below.refl _ _)))
   go_region_law
    (first
     | (refine step_ap_blk el_rterm (.tmp 65) (.tmp 66) rfl rfl rfl (own_empty (Nat.le_refl _) _ rfl) rfl K.out.2.2.2.1 (K.out.1 _ (r_al (r_dr (Below.refl _ _)))) K.out.2.2.2.2.1 hn0 (by omega) (by simp) ?_; intro g1 p1 w1 ho1 hg1 hn1; have hb1 : Below W.heap.size W w1 := (r_al (o := .cells #[] 49) (r_dr (Below.refl _ _))).grown hg1 (by simp) (fun q hq => Nat.le_of_eq (Option.some.inj hq)); have cz1 := K.out.2.1 _ hb1; have cz1' := K.out.2.1 _ (r_al (o := .cells #[.slice (some ⟨g1, 0, none⟩) n p1] 42) hb1); have A1 := Sealed.mk (And.intro hb1 (And.intro ho1 hn1)); clear ho1 hg1 hn1 hb1)
     | (refine step_ap_lit el_rterms (.tmp 64) (.tmp 68) rfl rfl rfl (K.out.2.2.1 _ A1.out.1) rfl rfl rfl rfl hroom (Nat.zero_le _) ?_; intro g2 p2 w2 ho2 hg2 hn2; have hz2 : w2.heap[b.p]? = some (.cells #[.slice (some ⟨b.f, 0, none⟩) vs.length cap] 88 (0, 0)) := (hg2.block b.p (Nat.lt_of_lt_of_le (lt_of_cell (K.out.2.1 _ A1.out.1)) (by simp)) (fun e => H.out.1.apart (Option.some.inj (show some b.p = some b.f from e)))).trans ((r_chain K.out.2.2.2.2.2.1 (r_al A1.out.1)).block _ (lt_of_blk HF.out.1) |>.trans HF.out.1); have hs2 : w2.cell? ⟨b.p, 0, none⟩ = some (.slice (some ⟨b.f, 0, none⟩) i cap) := (cell_of_blk hz2 0).trans (congrArg (fun z : Nat => some (Value.slice (some ⟨b.f, 0, none⟩) z cap)) HC.out.2.2.2.2.2.symm); have fz2 := frozen_of_blk hz2 0; have cz2 := hs2; have A2 := Sealed.mk (And.intro ho2 (And.intro hg2 (And.intro hn2 (And.intro hs2 hz2)))); clear ho2 hg2 hn2 hs2 hz2))
   all_goals
    have hiv := HC.out.2.2.2.2.2
    obtain ⟨hb1, ho1, hn1'⟩ := A1.out
    obtain ⟨ho2, hg2, hn2, -, hz2⟩ := A2.out
    have hbw : Below w.heap.size w (w1.alloc (.cells #[.slice (some ⟨g1, 0, none⟩) n p1] 42)) := r_chain K.out.2.2.2.2.2.1 (r_al hb1)
    have hl1 : RTL (w1.alloc (.cells #[.slice (some ⟨g1, 0, none⟩) n p1] 42)) (.slice (some ⟨g1, 0, none⟩) n p1) (enc vs x) := by
     have h1 : w1.ownsRow W.heap.size 49 2 (.slice (some ⟨g1, 0, none⟩) n p1) l.length (tcells l) := by
      have := ho1
      simp only [Nat.zero_add, List.nil_append] at this
      rw [← HC.out.2.1]; exact this
     rw [← HC.out.2.2.1]
     exact RTL.of_own (h1.alloc _) (by rw [← HC.out.2.1]; exact hn1)
    have hv1 : ∀ k, (Value.slice (some ⟨g1, 0, none⟩) n p1).ownBlock = some k → ¬ b.M k := fun k hk hM => by
     have h1 := (ho1.lt g1 rfl).1
     have h2 := H.out.1.lt k hM
     have h3 := K.out.2.2.2.2.2.1.size
     have h4 : g1 = k := Option.some.inj hk
     omega
    have hf1 : (w1.alloc (.cells #[.slice (some ⟨g1, 0, none⟩) n p1] 42)).heap[b.p]? = some (.cells #[.slice (some ⟨b.f, 0, none⟩) vs.length cap] 88 (0, 0)) ∧
      (w1.alloc (.cells #[.slice (some ⟨g1, 0, none⟩) n p1] 42)).heap[b.f]? = some (.cells cur 42 (0, 0)) ∧ vs.length ≤ cap ∧ cap ≤ maxLen ∧ cur.size = cap ∧
      ∀ (i : Nat) (x : Int), vs[i]? = some x → ∃ v, cur[i]? = some v ∧ RTL (w1.alloc (.cells #[.slice (some ⟨g1, 0, none⟩) n p1] 42)) v (enc vs x) ∧ ∀ k, v.ownBlock = some k → ¬ b.M k :=
     ⟨(hbw.block _ (lt_of_blk HF.out.1)).trans HF.out.1, (hbw.block _ (lt_of_blk HF.out.2.1)).trans HF.out.2.1, HF.out.2.2.1, HF.out.2.2.2.1, HF.out.2.2.2.2.1, fun i x hx => by
       obtain ⟨v, q1, q2, q3⟩ := HF.out.2.2.2.2.2 i x hx
       exact ⟨v, q1, q2.below hbw, q3⟩⟩
    have hn3 : g2 = b.f ∨ (w1.alloc (.cells #[.slice (some ⟨g1, 0, none⟩) n p1] 42)).heap.size ≤ g2 := by
     rcases hn2 with e | ⟨q, e, hq⟩
     ·exact .inl (Option.some.inj e)
     ·have h1 : g2 = q := Option.some.inj e
      rw [h1]; exact .inr hq
    obtain ⟨W3, hW3⟩ : ∃ W3, W3 = w2.setCell ⟨b.p, 0, none⟩ (.slice (some ⟨g2, 0, none⟩) (i + 1) p2) := ⟨_, rfl⟩
    have hp3 : W3.heap[b.p]? = some (.cells #[.slice (some ⟨g2, 0, none⟩) (i + 1) p2] 88 (0, 0)) := by rw [hW3]; exact (blk_setCell hz2 0 _).trans rfl
    have hx3 : Ext (fun k => k = b.p) w2 W3 := by rw [hW3]; exact (Ext.refl (fun k => k = b.p) w2).setCell (p := ⟨b.p, 0, none⟩) (.inl rfl) _
    have hc3 : W3.cell? ⟨b.p, 0, none⟩ = some (.slice (some ⟨g2, 0, none⟩) (i + 1) p2) := (cell_of_blk hp3 0).trans rfl
    have hst : RStep U w W3 b { b with f := g2 } vs (vs ++ [x]) := by
     rw [hiv] at ho2 hp3
     exact r_push hbw (H.out.1.below hbw) H.out.1.lt hl1 H.out.2.2.1 HX.out H.out.2.2.2 hv1 (fun k hk => by
      have h1 := (ho1.lt g1 rfl).1
      have h3 := K.out.2.2.2.2.2.1.size
      have h4 : g1 = k := Option.some.inj hk
      omega) (H.out.1.lt b.f (.inr rfl)) hf1 ho2 hg2 hn3 hp3 hx3
    have hidx : (vs ++ [x]).idxOf x = i := by
     rw [List.idxOf_append, if_neg HX.out, hiv]; simp
    have HFIN := Sealed.mk (And.intro hst hidx)
    rw [← hW3]
    clear hst hidx hW3 hp3 hx3 hf1 hv1 hl1 hbw hn3 ho2 hg2 hn2 hz2 hb1 ho1 hn1' hiv d0 d1 cz1 cz1' fz2 cz2 A1 A2
    go_wp2_with fail
    go_ret
    exact ⟨_, _, congrArg (fun z : Nat => Ending.returned (.int .i64 (z : Int))) HFIN.out.2.symm, by simp, HFIN.out.1⟩
end Go.Proofs.Ytgchfbfgjanaiaa

namespace Go.Proofs.Ytgchfbfgjanaiaa
open Go.RowKit Sr
set_option maxRecDepth 100000 in
set_option maxHeartbeats 1000000 in
theorem rwithout_any {w : World} {v : Value} {a b : List (Bool × Nat)} {t : Bool × Nat} (h : RTL w v (a ++ t :: b)) {k : Nat} (hk : k = a.length) :
  Calls Try.prog 97 #[v, .int .i64 (k : Int)] w fun e w' => ∃ v', e = .returned v' ∧ w'.ownsRow w.heap.size 49 2 v' (a ++ b).length (tcells (a ++ b)) ∧ Below w.heap.size w w' := by
 obtain ⟨hl, hlt, ad, c, rfl, hnc, hr⟩ := h
 obtain ⟨bb, o, rfl, hrd⟩ := hr (by simp)
 have hb := hlt bb rfl
 obtain ⟨n, hn⟩ : ∃ n, n = (a ++ t :: b).length := ⟨_, rfl⟩
 obtain ⟨m, hm⟩ : ∃ m, m = b.length := ⟨_, rfl⟩
 have hnm : n = k + (m + 1) := by rw [hn, hk, hm]; simp
 rw [← hn] at hl hnc ⊢
 have ha1 : (tcells a).length = k * 2 := by rw [tcells_length, hk]
 have ha2 : (tcells b).length = m * 2 := by rw [tcells_length, hm]
 have r1 : Reads w bb o (tcells a) := fun j u hu => hrd.reads j u (by rw [tcells_append, List.getElem?_append_left (List.getElem?_eq_some_iff.1 hu).1]; exact hu)
 have r2 : Reads w bb (o + (k + 1) * 2) (tcells b) := fun j u hu => by
  have := hrd.reads ((k + 1) * 2 + j) u (by
   rw [tcells_append, List.getElem?_append_right (by omega), ha1]
   have : (k + 1) * 2 + j - k * 2 = j + 1 + 1 := by omega
   rw [this]
   simpa [tcells] using hu)
  rw [Nat.add_assoc]; exact this
 have hlen : k + (m + 1) - (k + 1) = m := by omega
 have HR := Sealed.mk (And.intro r1 (And.intro r2 (And.intro ha1 ha2)))
 have HL : Sealed ((a ++ b).length = k + m ∧ tcells (a ++ b) = tcells a ++ tcells b ∧ (∀ u ∈ tcells a, u.oneCell' = true) ∧ ∀ u ∈ tcells b, u.oneCell' = true) := ⟨by rw [hk, hm]; simp, tcells_append _ _, tcells_one _, tcells_one _⟩
 clear r1 r2 ha1 ha2 hrd hr hlt hn hk hm
 subst hnm
 have f1 : (k : Int) ≤ (c : Int) := by omega
 have f2 : (k : Int) + 1 ≤ ((k + (m + 1) : Nat) : Int) := by omega
 have f3 : wrap64 ((k : Int) + 1) = (k : Int) + 1 := by unfold wrap64; omega
 go_enter Try.func97, Try.ntmps97
 go_upto_region 2 with (at_builtin; go_must (refine ap_blk el_rterm (.tmp 6) (.tmp 9) rfl rfl rfl (own_empty (Nat.le_refl _) _ rfl) rfl HR.out.2.2.1 ?g0 HL.out.2.2.1 ?g1 ?g2 ?g3))
 case g0 => exact HR.out.1.same (Below.heap_alloc _ _ _ hb)
 case g1 => omega
 case g2 => simp
 case g3 =>
  intro v1 w1 hown hg _
  have hb1 : Below w.heap.size w w1 := ((Below.refl _ _).alloc (Nat.le_refl _) _).grown hg (by simp) fun q hq => by
   have := Option.some.inj hq
   simp at this
   omega
  have HO := Sealed.mk (And.intro hown hb1); clear hown hg hb1
  obtain ⟨a1, c1, rfl⟩ := own_slice HO.out.1
  go_upto_region 2 with fail
  have hsz : w.heap.size ≤ w1.heap.size := HO.out.2.size
  by_cases hc : c = k + 1
  ·go_wp2_with (at_builtin; go_must (refine ap_blk (m := m) (b := bb) (off := o) (c := 0) el_rterm (.tmp 11) (.tmp 15) rfl rfl rfl HO.out.1 rfl HR.out.2.2.2 ?h0 HL.out.2.2.2 ?h1 ?h2 ?h3))
   case h0 =>
    have : b = [] := List.eq_nil_of_length_eq_zero (by have := HR.out.2.2.2; rw [tcells_length] at this; omega)
    subst this
    intro j u hu
    simp [tcells] at hu
   case h1 => omega
   case h2 => exact hsz
   case h3 =>
    intro v2 w2 hown2 hg2 _
    have HO2 := Sealed.mk (And.intro hown2 (HO.out.2.grown hg2 hsz fun q hq => own_ge HO.out.1 q hq)); clear hown2 hg2
    go_wp2_with fail
    go_ret
    refine ⟨_, rfl, ?_, HO2.out.2⟩
    rw [HL.out.1, HL.out.2.1]
    have := HO2.out.1
    simpa using this
  ·go_wp2_with (at_builtin; go_must (refine ap_blk (m := m) (b := bb) (off := o + (k + 1) * 2) (c := c - (k + 1)) el_rterm (.tmp 11) (.tmp 15) rfl rfl rfl HO.out.1 rfl HR.out.2.2.2 ?h0 HL.out.2.2.2 ?h1 ?h2 ?h3))
   case h0 => exact HR.out.2.1.same (HO.out.2.block _ hb)
   case h1 => omega
   case h2 => exact hsz
   case h3 =>
    intro v2 w2 hown2 hg2 _
    have HO2 := Sealed.mk (And.intro hown2 (HO.out.2.grown hg2 hsz fun q hq => own_ge HO.out.1 q hq)); clear hown2 hg2
    go_wp2_with fail
    go_ret
    refine ⟨_, rfl, ?_, HO2.out.2⟩
    rw [HL.out.1, HL.out.2.1]
    have := HO2.out.1
    simpa using this
end Go.Proofs.Ytgchfbfgjanaiaa
