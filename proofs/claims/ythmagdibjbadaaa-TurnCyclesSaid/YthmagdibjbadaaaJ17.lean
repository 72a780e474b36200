/-
  num.world.give: plain
  num.world.give: its memory
-/
import Derived.Test.YthmagdibjbadaaaJ16
set_option linter.unusedSimpArgs false
set_option linter.unusedVariables false
namespace Go.Proofs.Ythmagdibjbadaaa
open Go.RowKit Sr

theorem nodup_sub_nat : ∀ {a b : List Nat}, a.Nodup → (∀ x ∈ a, x ∈ b) → a.length ≤ b.length
  | [], _, _, _ => by simp
  | x :: a, b, hd, hs => by
    obtain ⟨hx, hd'⟩ := List.nodup_cons.1 hd
    have hxb : x ∈ b := hs x (by simp)
    have hlen := List.length_erase_of_mem hxb
    have hpos := List.length_pos_of_mem hxb
    have := nodup_sub_nat (b := b.erase x) hd' fun y hy => (List.mem_erase_of_ne (fun e : y = x => hx (e ▸ hy))).2 (hs y (by simp [hy]))
    simp only [List.length_cons]
    omega

theorem plist_nodup (x : Int) : (plist x).Nodup := (plist_up x).imp fun h => by omega

theorem plist_deep {e : Nat} {x : Int} (h : e ∈ exps x) : (plist (e : Int)).length + 1 ≤ (plist x).length := by
  have := nodup_sub_nat (a := e :: plist (e : Int)) (b := plist x) (List.nodup_cons.2 ⟨fun h => by have := (mem_plist.1 h).lt; simp at this, plist_nodup _⟩) fun f hf => by
    rcases List.mem_cons.1 hf with rfl | hf
    · exact mem_plist.2 (.here h)
    · exact mem_plist.2 (.deep h (mem_plist.1 hf))
  simpa using this

theorem height_plist (n : Nat) : ∀ {x : Int}, x.natAbs < n → height x ≤ (plist x).length := by
  induction n with
  | zero => intro x h; omega
  | succ n ih =>
    intro x h
    rw [height_eq]
    have key : ∀ l : List Nat, (∀ e ∈ l, e ∈ exps x) → l.foldr (fun (e : Nat) m => max (height (e : Int) + 1) m) 0 ≤ (plist x).length := by
      intro l
      induction l with
      | nil => intro _; simp
      | cons e l ihl =>
        intro hl
        have he := hl e (by simp)
        have h1 := ihl fun f hf => hl f (by simp [hf])
        have h2 := exps_lt he
        have h3 := ih (x := (e : Int)) (by simp; omega)
        have h4 := plist_deep he
        simp only [List.foldr_cons]
        omega
    exact key _ fun e he => he

/-- in a list in which exponents stand ahead all parts stand -/
theorem Sr.Cl.parts {vs : List Int} (h : Cl vs) {x : Int} (hc : Cov vs x) {e : Nat} (hp : Part e x) : (e : Int) ∈ vs := by
  induction hp with
  | here he =>
    obtain ⟨t, ht, rfl⟩ := mem_exps.1 he
    exact hc t ht
  | deep he _ ih =>
    obtain ⟨t, ht, rfl⟩ := mem_exps.1 he
    exact ih (h.cov (hc t ht))

theorem Sr.Cl.plist_length {vs : List Int} (h : Cl vs) {x : Int} (hc : Cov vs x) : (plist x).length ≤ vs.length := by
  have h1 : ∀ y ∈ (plist x).map (fun e : Nat => (e : Int)), y ∈ vs := by
    intro y hy
    obtain ⟨e, he, rfl⟩ := List.mem_map.1 hy
    exact h.parts hc (mem_plist.1 he)
  have h2 : ((plist x).map (fun e : Nat => (e : Int))).Nodup := by
    have := plist_up x
    unfold List.Nodup
    rw [List.pairwise_map]
    exact this.imp fun h => by omega
  simpa using nodup_sub_length h2 h1

/-- the greatest height of some, and one -/
def hmax (l : List Nat) (f : Nat → Nat) : Nat := l.foldr (fun e m => max (f e + 1) m) 0

theorem hmax_snoc (l : List Nat) (e : Nat) (f : Nat → Nat) : hmax (l ++ [e]) f = max (hmax l f) (f e + 1) := by
  induction l with
  | nil => simp [hmax]
  | cons x l ih => simp only [List.cons_append, hmax, List.foldr_cons] at ih ⊢; omega

structure GP (vs : List Int) (x0 : Int) (ok : Bool) (ps : List Nat) (hl : List (Int × Int)) : Prop where
  nodup : ps.Nodup
  part : ∀ e ∈ ps, Part e x0
  there : ∀ e ∈ ps, (e : Int) ∈ vs
  known : ∀ e : Nat, (e : Int) ∈ vs → (lookK hl (vs.idxOf (e : Int) : Nat)).isSome = decide (e ∈ ps)
  right : ok = true → ∀ e ∈ ps, lookK hl (vs.idxOf (e : Int) : Nat) = some (height (e : Int) : Int)
  closed : ok = true → ∀ e ∈ ps, ∀ f ∈ exps (e : Int), f ∈ ps
  few : ok = true → ∀ e ∈ ps, (form (e : Int)).length ≤ 300
  bad : ok = false → ¬ Allowed x0
  apart : KeysApart hl

theorem GP.nil (vs : List Int) (x0 : Int) : GP vs x0 true [] [] :=
  ⟨by simp, by simp, by simp, by simp [lookK], by simp, by simp, by simp, by simp, List.Pairwise.nil⟩

theorem GP.length {vs : List Int} {x0 : Int} {ok : Bool} {ps : List Nat} {hl : List (Int × Int)} (h : GP vs x0 ok ps hl) : ps.length ≤ (plist x0).length :=
  nodup_sub_nat h.nodup fun e he => mem_plist.2 (h.part e he)

/-- from here on, perhaps, it is known not to be allowed -/
theorem GP.turn {vs : List Int} {x0 : Int} {ps : List Nat} {hl : List (Int × Int)} (h : GP vs x0 true ps hl) {ok : Bool} (hb : ok = false → ¬ Allowed x0) : GP vs x0 ok ps hl :=
  ⟨h.nodup, h.part, h.there, h.known, fun _ => h.right rfl, fun _ => h.closed rfl, fun _ => h.few rfl, hb, h.apart⟩

/-- one more is listed, behind its parts -/
theorem GP.push {vs : List Int} {x0 : Int} {ok : Bool} {ps : List Nat} {hl : List (Int × Int)} (h : GP vs x0 ok ps hl) {e : Nat} (hv : (e : Int) ∈ vs) (hp : Part e x0) (hn : e ∉ ps) {k : Int} (hk : ok = true → k = height (e : Int))
    (hc : ok = true → ∀ f ∈ exps (e : Int), f ∈ ps) (hf : ok = true → (form (e : Int)).length ≤ 300) : GP vs x0 ok (ps ++ [e]) (putK hl (vs.idxOf (e : Int) : Nat) k) where
  nodup := by
    rw [List.nodup_append]
    refine ⟨h.nodup, by simp, ?_⟩
    intro a ha b hb
    simp at hb
    subst hb
    intro e
    exact hn (e ▸ ha)
  part := fun f hf => by
    rcases List.mem_append.1 hf with hf | hf
    · exact h.part f hf
    · simp at hf; subst hf; exact hp
  there := fun f hf => by
    rcases List.mem_append.1 hf with hf | hf
    · exact h.there f hf
    · simp at hf; subst hf; exact hv
  known := fun f hf => by
    rw [lookK_putK]
    by_cases hfe : f = e
    · subst hfe; simp
    · have : ¬ ((vs.idxOf (f : Int) : Nat) : Int) = (vs.idxOf (e : Int) : Nat) := fun q => hfe (by have := idxOf_inj hf (Int.ofNat_inj.1 q); omega)
      rw [if_neg this, h.known f hf]
      simp [hfe]
  right := fun ho f hf => by
    rw [lookK_putK]
    rcases List.mem_append.1 hf with hf | hf
    · have hfe : f ≠ e := fun q => hn (q ▸ hf)
      have hfv := h.there f hf
      have : ¬ ((vs.idxOf (f : Int) : Nat) : Int) = (vs.idxOf (e : Int) : Nat) := fun q => hfe (by have := idxOf_inj hfv (Int.ofNat_inj.1 q); omega)
      rw [if_neg this]
      exact h.right ho f hf
    · simp at hf; subst hf; simp [hk ho]
  closed := fun ho f hf g hg => by
    rcases List.mem_append.1 hf with hf | hf
    · exact List.mem_append_left _ (h.closed ho f hf g hg)
    · simp at hf; subst hf; exact List.mem_append_left _ (hc ho g hg)
  few := fun ho f hf' => by
    rcases List.mem_append.1 hf' with hf' | hf'
    · exact h.few ho f hf'
    · simp at hf'; subst hf'; exact hf ho
  bad := h.bad
  apart := h.apart.put _ _

end Go.Proofs.Ythmagdibjbadaaa

namespace Go.Proofs.Ythmagdibjbadaaa
open Go.RowKit Sr

/-- the blocks that give lays: of the variables, of the table, and from where on all else lies -/
structure GB where
  bh : Nat
  bo : Nat
  bw : Nat
  bp : Nat
  bk : Nat
  mh : Nat
  B : Nat

def pt (b : Nat) : Value := .pointer (some ⟨b, 0, none⟩)
def GB.free (g : GB) : Array Value := #[pt g.bh, pt g.bo, pt g.bw, pt g.bp, pt g.bk]

/-- a variable's cell -/
def Var (w : World) (b : Nat) (v : Value) : Prop := ∃ ty, w.heap[b]? = some (.cells #[v] ty (0, 0))

theorem Var.same {w w1 : World} {b : Nat} {v : Value} (h : Var w b v) (e : w1.heap[b]? = w.heap[b]?) : Var w1 b v := by
  obtain ⟨ty, h⟩ := h; exact ⟨ty, e.trans h⟩
theorem Var.lt {w : World} {b : Nat} {v : Value} (h : Var w b v) : b < w.heap.size := by obtain ⟨ty, h⟩ := h; exact lt_of_blk h
theorem Var.cell {w : World} {b : Nat} {v : Value} (h : Var w b v) : w.cell? ⟨b, 0, none⟩ = some v := by obtain ⟨ty, h⟩ := h; rw [cell_of_blk h]; rfl
theorem Var.thaw {w : World} {b : Nat} {v : Value} (h : Var w b v) : w.frozen? ⟨b, 0, none⟩ = false := by obtain ⟨ty, h⟩ := h; exact frozen_of_blk h 0
theorem Var.set {w : World} {b : Nat} {v : Value} (h : Var w b v) (u : Value) : Var (w.setCell ⟨b, 0, none⟩ u) b u := by
  obtain ⟨ty, h⟩ := h; exact ⟨ty, by rw [blk_setCell h]; simp⟩

theorem setCell_other {w : World} {b k : Nat} (u : Value) (h : k ≠ b) (hk : k < w.heap.size) : (w.setCell ⟨b, 0, none⟩ u).heap[k]? = w.heap[k]? :=
  ((Ext.refl (fun q => q = b) w).setCell (p := ⟨b, 0, none⟩) (.inl rfl) u).block k hk h

structure GB.Ok (g : GB) (N0 : Nat) : Prop where
  low : N0 ≤ g.bh ∧ N0 ≤ g.bo ∧ N0 ≤ g.bw ∧ N0 ≤ g.bp ∧ N0 ≤ g.bk ∧ N0 ≤ g.mh
  high : g.bh < g.B ∧ g.bo < g.B ∧ g.bw < g.B ∧ g.bp < g.B ∧ g.bk < g.B ∧ g.mh < g.B
  o : g.bo ≠ g.bh ∧ g.bo ≠ g.bw ∧ g.bo ≠ g.bp ∧ g.bo ≠ g.bk ∧ g.bo ≠ g.mh
  p : g.bp ≠ g.bh ∧ g.bp ≠ g.bw ∧ g.bp ≠ g.bk ∧ g.bp ≠ g.mh
  m : g.mh ≠ g.bh ∧ g.mh ≠ g.bw ∧ g.mh ≠ g.bk

structure GM (g : GB) (wp : Nat) (vs : List Int) (wr : World) (ok : Bool) (ps : List Nat) (hl : List (Int × Int)) : Prop where
  ch : Var wr g.bh (.map (some g.mh))
  co : Var wr g.bo (.bool ok)
  cw : Var wr g.bw (pt wp)
  ck : Var wr g.bk (.func (.func 31) #[] g.free)
  cp : ∃ pv, Var wr g.bp pv ∧ wr.ownsRow g.B 3 1 pv ps.length (icells (ps.map fun e : Nat => vs.idxOf (e : Int)))
  hm : MapIs (fun n : Int => Value.int .i64 n) wr g.mh hl
  size : g.B ≤ wr.heap.size

variable {g : GB} {N0 wp : Nat} {vs : List Int} {wr w' : World} {ok : Bool} {ps : List Nat} {hl : List (Int × Int)}

/-- what leaves all of it alone -/
theorem GM.keep (h : GM g wp vs wr ok ps hl) (e : Ext noB wr w') : GM g wp vs w' ok ps hl := by
  have hb : ∀ k, k < wr.heap.size → w'.heap[k]? = wr.heap[k]? := fun k hk => e.block k hk fun h => h
  obtain ⟨pv, h1, h2⟩ := h.cp
  exact ⟨h.ch.same (hb _ h.ch.lt), h.co.same (hb _ h.co.lt), h.cw.same (hb _ h.cw.lt), h.ck.same (hb _ h.ck.lt), ⟨pv, h1.same (hb _ h1.lt), own_ext h2 e fun _ _ h => h⟩, h.hm.same (hb _ h.hm.lt), Nat.le_trans h.size e.size⟩

theorem GM.setOk (h : GM g wp vs wr ok ps hl) (hg : g.Ok N0) (ok' : Bool) : GM g wp vs (wr.setCell ⟨g.bo, 0, none⟩ (.bool ok')) ok' ps hl := by
  obtain ⟨o1, o2, o3, o4, o5⟩ := hg.o
  obtain ⟨pv, h1, h2⟩ := h.cp
  have hx : Ext (fun q => q = g.bo) wr (wr.setCell ⟨g.bo, 0, none⟩ (.bool ok')) := (Ext.refl (fun q => q = g.bo) wr).setCell (p := ⟨g.bo, 0, none⟩) (.inl rfl) _
  exact ⟨h.ch.same (hx.block _ h.ch.lt fun e => o1 e.symm), h.co.set _, h.cw.same (hx.block _ h.cw.lt fun e => o2 e.symm), h.ck.same (hx.block _ h.ck.lt fun e => o4 e.symm),
    ⟨pv, h1.same (hx.block _ h1.lt fun e => o3 e.symm), own_ext h2 hx fun k hk e => by have := (h2.lt k hk).1; have := hg.high; omega⟩, h.hm.same (hx.block _ h.hm.lt fun e => o5 e.symm), Nat.le_trans h.size hx.size⟩

theorem GM.setMap (h : GM g wp vs wr ok ps hl) (hg : g.Ok N0) {hl' : List (Int × Int)} (hm : MapIs (fun n : Int => Value.int .i64 n) w' g.mh hl') (hgr : wr.grownBy w' (some g.mh)) : GM g wp vs w' ok ps hl' := by
  obtain ⟨m1, m2, m3⟩ := hg.m
  obtain ⟨pv, h1, h2⟩ := h.cp
  have hx : Ext (fun q => q = g.mh) wr w' := (Ext.refl _ wr).grown hgr fun k hk => .inl (Option.some.inj hk).symm
  exact ⟨h.ch.same (hx.block _ h.ch.lt fun e => m1 e.symm), h.co.same (hx.block _ h.co.lt fun e => hg.o.2.2.2.2 e), h.cw.same (hx.block _ h.cw.lt fun e => m2 e.symm), h.ck.same (hx.block _ h.ck.lt fun e => m3 e.symm),
    ⟨pv, h1.same (hx.block _ h1.lt fun e => hg.p.2.2.2 e), own_ext h2 hx fun k hk e => by have := (h2.lt k hk).1; have := hg.high; omega⟩, hm, Nat.le_trans h.size hx.size⟩

theorem GM.setParts (h : GM g wp vs wr ok ps hl) (hg : g.Ok N0) {pv pv' : Value} (hv : Var wr g.bp pv) (hown : wr.ownsRow g.B 3 1 pv ps.length (icells (ps.map fun e : Nat => vs.idxOf (e : Int)))) (hgr : wr.grownBy w' pv.ownBlock) {ps' : List Nat}
    (hown' : w'.ownsRow g.B 3 1 pv' ps'.length (icells (ps'.map fun e : Nat => vs.idxOf (e : Int)))) : GM g wp vs (w'.setCell ⟨g.bp, 0, none⟩ pv') ok ps' hl := by
  have hhi := hg.high
  have hx0 : Ext (fun q => pv.ownBlock = some q) wr w' := ⟨hgr.os, hgr.tape, hgr.output, hgr.size, fun q hq hn => hgr.block q hq fun e => hn e.symm⟩
  have hlow : ∀ q, pv.ownBlock = some q → g.B ≤ q := fun q hq => (hown.lt q hq).1
  have hlow' : ∀ q, pv'.ownBlock = some q → g.B ≤ q := fun q hq => (hown'.lt q hq).1
  have hx1 : Ext (fun q => q = g.bp) w' (w'.setCell ⟨g.bp, 0, none⟩ pv') := (Ext.refl (fun q => q = g.bp) w').setCell (p := ⟨g.bp, 0, none⟩) (.inl rfl) _
  have hk : ∀ k, k < wr.heap.size → k < g.B → k ≠ g.bp → (w'.setCell ⟨g.bp, 0, none⟩ pv').heap[k]? = wr.heap[k]? := fun k h1 h2 h3 =>
    (hx1.block k (Nat.lt_of_lt_of_le h1 hx0.size) h3).trans (hx0.block k h1 fun e => by have := hlow k e; omega)
  have hv' : Var w' g.bp pv := hv.same (hx0.block _ hv.lt fun e => by have := hlow _ e; omega)
  exact ⟨h.ch.same (hk _ h.ch.lt hhi.1 hg.p.1.symm), h.co.same (hk _ h.co.lt hhi.2.1 hg.o.2.2.1), h.cw.same (hk _ h.cw.lt hhi.2.2.1 hg.p.2.1.symm), h.ck.same (hk _ h.ck.lt hhi.2.2.2.2.1 hg.p.2.2.1.symm),
    ⟨pv', hv'.set _, own_ext hown' hx1 fun k hq e => by have := hlow' k hq; omega⟩, h.hm.same (hk _ h.hm.lt hhi.2.2.2.2.2 hg.p.2.2.2.symm), Nat.le_trans h.size (Nat.le_trans hx0.size hx1.size)⟩

theorem Var.one {w : World} {b : Nat} {u v : Value} (h : Var w b u) (k : Var w b v) : u = v := by
  obtain ⟨t1, h⟩ := h
  obtain ⟨t2, k⟩ := k
  rw [h] at k
  simp only [Option.some.injEq, Obj.cells.injEq] at k
  simpa using k.1

/-- the blocks that walking writes -/
def GX (g : GB) (w : World) (q : Nat) : Prop := q = g.bo ∨ q = g.bp ∨ q = g.mh ∨ ∃ pv, Var w g.bp pv ∧ pv.ownBlock = some q

structure GStep (g : GB) (w w' : World) : Prop where
  ext : Ext (GX g w) w w'
  news : ∀ q, GX g w' q → GX g w q ∨ w.heap.size ≤ q

theorem GStep.refl (g : GB) (w : World) : GStep g w w := ⟨Ext.refl _ _, fun _ h => .inl h⟩
theorem GStep.trans {w1 w2 : World} (h : GStep g wr w1) (k : GStep g w1 w2) : GStep g wr w2 :=
  ⟨h.ext.trans k.ext h.news, fun q hq => by
    rcases k.news q hq with h1 | h1
    · exact h.news q h1
    · exact .inr (Nat.le_trans h.ext.size h1)⟩

theorem GStep.of_ext {N : Nat → Prop} (e : Ext N wr w') (hN : ∀ q, N q → GX g wr q) (hp : g.bp < wr.heap.size) (hn : ¬ N g.bp) : GStep g wr w' :=
  ⟨e.imp fun q hq => .inl (hN q hq), fun q hq => by
    rcases hq with h | h | h | ⟨pv, ⟨ty, h1⟩, h2⟩
    · exact .inl (.inl h)
    · exact .inl (.inr (.inl h))
    · exact .inl (.inr (.inr (.inl h)))
    · exact .inl (.inr (.inr (.inr ⟨pv, ⟨ty, (e.block _ hp hn).symm.trans h1⟩, h2⟩)))⟩

theorem GX.back {N : Nat → Prop} (e : Ext N wr w') (hp : g.bp < wr.heap.size) (hn : ¬ N g.bp) {q : Nat} (h : GX g w' q) : GX g wr q := by
  rcases h with h | h | h | ⟨pv, ⟨ty, h1⟩, h2⟩
  · exact .inl h
  · exact .inr (.inl h)
  · exact .inr (.inr (.inl h))
  · exact .inr (.inr (.inr ⟨pv, ⟨ty, (e.block _ hp hn).symm.trans h1⟩, h2⟩))

theorem GM.gx_lt (h : GM g wp vs wr ok ps hl) {q : Nat} (hq : GX g wr q) : q < wr.heap.size := by
  obtain ⟨pv, h1, h2⟩ := h.cp
  rcases hq with e | e | e | ⟨pv', h3, h4⟩
  · rw [e]; exact h.co.lt
  · rw [e]; exact h1.lt
  · rw [e]; exact h.hm.lt
  · rw [h3.one h1] at h4; exact (h2.lt q h4).2

theorem GM.bplt (h : GM g wp vs wr ok ps hl) : g.bp < wr.heap.size := by obtain ⟨pv, h1, _⟩ := h.cp; exact h1.lt

theorem GStep.below (k : GStep g wr w') (h : GM g wp vs wr ok ps hl) (hg : g.Ok N0) : Below N0 wr w' :=
  ⟨k.ext.os, k.ext.tape, k.ext.output, k.ext.size, fun q hq => k.ext.block q (by have := h.size; have := hg.low; have := hg.high; omega) fun hx => by
    have hl := hg.low
    have hh := hg.high
    rcases hx with e | e | e | ⟨pv, h1, h2⟩
    · omega
    · omega
    · omega
    · obtain ⟨pv', h3, h4⟩ := h.cp
      rw [h1.one h3] at h2
      have := (h4.lt q h2).1
      omega⟩

theorem GStep.setParts (h : GM g wp vs wr ok ps hl) {pv pv' : Value} (hv : Var wr g.bp pv) (hgr : wr.grownBy w' pv.ownBlock) (hn : NewOr wr pv pv') (hne : pv.ownBlock ≠ some g.bp) : GStep g wr (w'.setCell ⟨g.bp, 0, none⟩ pv') := by
  have hx0 : Ext (fun q => pv.ownBlock = some q) wr w' := ⟨hgr.os, hgr.tape, hgr.output, hgr.size, fun q hq hn => hgr.block q hq fun e => hn e.symm⟩
  have hx1 : Ext (fun q => q = g.bp) w' (w'.setCell ⟨g.bp, 0, none⟩ pv') := (Ext.refl (fun q => q = g.bp) w').setCell (p := ⟨g.bp, 0, none⟩) (.inl rfl) _
  have hv' : Var w' g.bp pv := hv.same (hx0.block _ hv.lt fun e => hne e)
  refine ⟨(hx0.imp (M := GX g wr) fun q hq => .inl (.inr (.inr (.inr ⟨pv, hv, hq⟩)))).trans hx1 fun q hq => .inl (.inr (.inl hq)), fun q hq => ?_⟩
  rcases hq with h | h | h | ⟨pw, h1, h2⟩
  · exact .inl (.inl h)
  · exact .inl (.inr (.inl h))
  · exact .inl (.inr (.inr (.inl h)))
  · rw [h1.one (hv'.set pv')] at h2
    rcases hn with e | ⟨k, e, hk⟩
    · exact .inl (.inr (.inr (.inr ⟨pv, hv, by rw [← e]; exact h2⟩)))
    · rw [e] at h2
      obtain rfl := Option.some.inj h2
      exact .inr hk

end Go.Proofs.Ythmagdibjbadaaa
