/-
  a num.N in memory
  a number stays while a variable that holds a pointer is written
  slices.Clone, Reverse, Concat at lists of terms; num.negated, num.sign
  num.sign, slices.Reverse, num.newWorld
  (num.N).self, parts, Sign
  parts ahead, plain; append at a step of a region that draws
  the first terms of a list placed anew, plain
  num.world.take
-/
import Derived.Test.YtgchfbfgjanaiaaJ03
import Derived.Test.YtgchfbfgjanaiaaJ02
import Derived.Deep.DeepMust
import Derived.WalkSpells
import Derived.BigRegion
import Derived.Test.YtgchfbfgjanaiaaJ01
import Derived.Deep.AppendLies
import Derived.StillTailTactics
import Derived.Deep.LoopGhost
set_option linter.unusedSimpArgs false
set_option linter.unusedVariables false
namespace Go.Proofs.Ytgchfbfgjanaiaa
open Go.RowKit Sr
noncomputable def pvs (x : Int) : List Int := (plist x).map fun e : Nat => (e : Int)
theorem pvs_nodup (x : Int) : (pvs x).Nodup := by
  have := plist_up x
  unfold pvs List.Nodup
  rw [List.pairwise_map]
  exact this.imp fun h => by omega
theorem pvs_mem {x : Int} {e : Nat} : (e : Int) ∈ pvs x ↔ Part e x := by
  unfold pvs
  rw [List.mem_map]
  constructor
  · rintro ⟨f, hf, h⟩
    have : f = e := by omega
    subst this
    exact mem_plist.1 hf
  · intro h
    exact ⟨e, mem_plist.2 h, rfl⟩
theorem pvs_cov (x : Int) : Cov (pvs x) x := fun t ht => pvs_mem.2 (.here (mem_exps.2 ⟨t, ht, rfl⟩))
theorem pvs_cov_part {x : Int} {e : Nat} (h : Part e x) : Cov (pvs x) (e : Int) := fun t ht => pvs_mem.2 (h.up (mem_exps.2 ⟨t, ht, rfl⟩))
structure PReads (w : World) (b o : Nat) (x : Int) : Prop where
  get : ∀ (i e : Nat), (plist x)[i]? = some e → ∃ u, w.cell? ⟨b, o + i, none⟩ = some u ∧ TL w u (enc (pvs x) (e : Int))
  ty : TyBlk w b 96
def PartsAt (w : World) (v : Value) (x : Int) : Prop :=
  (∀ b, v.ownBlock = some b → b < w.heap.size) ∧ ∃ a c, v = .slice a (plist x).length c ∧ (plist x).length ≤ c ∧
    (plist x ≠ [] → ∃ b o, a = some ⟨b, o, none⟩ ∧ PReads w b o x)
def NumBlk (w : World) (k : Nat) (x : Int) : Prop := ∃ pv sv, w.heap[k]? = some (.cells #[pv, sv] 128 (0, 0)) ∧ PartsAt w pv x ∧ TL w sv (enc (pvs x) x)
def NumIs (w : World) (v : Value) (x : Int) : Prop := Allowed x ∧ ((x = 0 ∧ v = .agg #[.pointer none]) ∨ (x ≠ 0 ∧ ∃ k, v = .agg #[.pointer (some ⟨k, 0, none⟩)] ∧ NumBlk w k x))
theorem PartsAt.below {w w1 : World} {v : Value} {x : Int} (h : PartsAt w v x) (e : Below w.heap.size w w1) : PartsAt w1 v x := by
  obtain ⟨h0, a, c, rfl, h1, h2⟩ := h
  refine ⟨fun b hb => Nat.lt_of_lt_of_le (h0 b hb) e.size, a, c, rfl, h1, fun hne => ?_⟩
  obtain ⟨b, o, rfl, h3⟩ := h2 hne
  refine ⟨b, o, rfl, fun i x hx => ?_, h3.ty.same (e.block b (h0 b rfl))⟩
  obtain ⟨u, h4, h5⟩ := h3.get i x hx
  exact ⟨u, (cell_same (e.block b (h0 b rfl)) _).trans h4, h5.below e⟩
theorem NumBlk.below {w w1 : World} {k : Nat} {x : Int} (h : NumBlk w k x) (e : Below w.heap.size w w1) : NumBlk w1 k x := by
  obtain ⟨pv, sv, h1, h2, h3⟩ := h
  exact ⟨pv, sv, (e.block k (lt_of_blk h1)).trans h1, h2.below e, h3.below e⟩
theorem NumIs.below {w w1 : World} {v : Value} {x : Int} (h : NumIs w v x) (e : Below w.heap.size w w1) : NumIs w1 v x := by
  refine ⟨h.1, ?_⟩
  rcases h.2 with h | ⟨h0, k, h1, h2⟩
  · exact .inl h
  · exact .inr ⟨h0, k, h1, h2.below e⟩
theorem NumIs.zero (w : World) : NumIs w (.agg #[.pointer none]) 0 := ⟨allowed_zero, .inl ⟨rfl, rfl⟩⟩
theorem enc_replace {vs : List Int} {x y : Int} (hy : Cov (pvs x) y) {f : Nat → Nat} (hf : ∀ e : Nat, Part e x → f (vs.idxOf (e : Int)) = (pvs x).idxOf (e : Int)) :
    (enc vs y).map (fun t => (t.1, f t.2)) = enc (pvs x) y := by
  unfold enc
  rw [List.map_map]
  apply List.map_congr_left
  intro t ht
  simp only [Function.comp]
  rw [hf _ (pvs_mem.1 (hy t ht))]
theorem pvs_idxOf (x : Int) (e : Nat) : (pvs x).idxOf (e : Int) = (plist x).idxOf e := by
  unfold pvs
  induction plist x with
  | nil => rfl
  | cons f l ih =>
    simp only [List.map_cons, List.idxOf_cons, ih]
    by_cases h : f = e
    · subst h; simp
    · have h1 : ((f : Int) == (e : Int)) = false := by simp; omega
      have h2 : (f == e) = false := by simp [h]
      rw [h1, h2]
end Go.Proofs.Ytgchfbfgjanaiaa

namespace Go.Proofs.Ytgchfbfgjanaiaa
open Go.RowKit Sr
variable {w w1 : World} {q : Nat} {p : Option Addr} {ty : TypeId} {fz : Nat × Nat}
theorem cell_ptr (hq : w.heap[q]? = some (.cells #[.pointer p] ty fz)) {i : Nat} {v : Value} (h : w.cell? ⟨q, i, none⟩ = some v) : v = .pointer p := by
  rw [cell_of_blk hq] at h
  cases i with
  | zero => simpa using h.symm
  | succ i => simp at h
theorem TL.other {v : Value} {l : List (Bool × Nat)} (h : TL w v l) (hq : w.heap[q]? = some (.cells #[.pointer p] ty fz)) (e : Ext (fun k => k = q) w w1) : TL w1 v l := by
  obtain ⟨h1, h0, a, c, rfl, h2, h3⟩ := h
  refine ⟨h1, fun b h => Nat.lt_of_lt_of_le (h0 b h) e.size, a, c, rfl, h2, fun hl => ?_⟩
  obtain ⟨b, o, rfl, hr⟩ := h3 hl
  refine ⟨b, o, rfl, hr.same (e.block b (h0 b rfl) fun hb => ?_)⟩
  subst hb
  cases l with
  | nil => exact hl rfl
  | cons t l =>
    have := cell_ptr hq (hr.reads 0 (.bool t.1) rfl)
    cases this
theorem PartsAt.other {v : Value} {x : Int} (h : PartsAt w v x) (hq : w.heap[q]? = some (.cells #[.pointer p] ty fz)) (e : Ext (fun k => k = q) w w1) : PartsAt w1 v x := by
  obtain ⟨h0, a, c, rfl, h1, h2⟩ := h
  refine ⟨fun b hb => Nat.lt_of_lt_of_le (h0 b hb) e.size, a, c, rfl, h1, fun hne => ?_⟩
  obtain ⟨b, o, rfl, h3⟩ := h2 hne
  have hbq : b ≠ q := fun hb => by
    subst hb
    obtain ⟨i, hi⟩ : ∃ i, (plist x)[0]? = some i := ⟨_, List.getElem?_eq_getElem (List.length_pos_iff.2 hne)⟩
    obtain ⟨u, h4, h5⟩ := h3.get 0 i hi
    have := cell_ptr hq h4
    obtain ⟨a', n', c', hu⟩ := h5.slice
    rw [hu] at this
    cases this
  refine ⟨b, o, rfl, fun i f hx => ?_, h3.ty.same (e.block b (h0 b rfl) hbq)⟩
  obtain ⟨u, h4, h5⟩ := h3.get i f hx
  exact ⟨u, (cell_same (e.block b (h0 b rfl) hbq) _).trans h4, h5.other hq e⟩
theorem NumBlk.other {k : Nat} {x : Int} (h : NumBlk w k x) (hq : w.heap[q]? = some (.cells #[.pointer p] ty fz)) (e : Ext (fun k => k = q) w w1) : NumBlk w1 k x := by
  obtain ⟨pv, sv, h1, h2, h3⟩ := h
  refine ⟨pv, sv, e.get h1 fun hb => ?_, h2.other hq e, h3.other hq e⟩
  have hb' : k = q := hb
  rw [hb', hq] at h1
  simp at h1
theorem NumIs.other {v : Value} {x : Int} (h : NumIs w v x) (hq : w.heap[q]? = some (.cells #[.pointer p] ty fz)) (e : Ext (fun k => k = q) w w1) : NumIs w1 v x := by
  refine ⟨h.1, ?_⟩
  rcases h.2 with h | ⟨h0, k, h1, h2⟩
  · exact .inl h
  · exact .inr ⟨h0, k, h1, h2.other hq e⟩
def Apart (w : World) (M : Nat → Prop) : Prop := ∀ k, M k → ∀ t, TyBlk w k t → t ≠ 98 ∧ t ≠ 96 ∧ t ≠ 128
variable {M : Nat → Prop}
theorem TL.apart {v : Value} {l : List (Bool × Nat)} (h : TL w v l) (hM : Apart w M) (e : Ext M w w1) : TL w1 v l := by
  obtain ⟨h1, h0, a, c, rfl, h2, h3⟩ := h
  refine ⟨h1, fun b h => Nat.lt_of_lt_of_le (h0 b h) e.size, a, c, rfl, h2, fun hl => ?_⟩
  obtain ⟨b, o, rfl, hr⟩ := h3 hl
  exact ⟨b, o, rfl, hr.same (e.block b (h0 b rfl) fun hb => (hM b hb _ hr.ty).1 rfl)⟩
theorem PartsAt.apart {v : Value} {x : Int} (h : PartsAt w v x) (hM : Apart w M) (e : Ext M w w1) : PartsAt w1 v x := by
  obtain ⟨h0, a, c, rfl, h1, h2⟩ := h
  refine ⟨fun b hb => Nat.lt_of_lt_of_le (h0 b hb) e.size, a, c, rfl, h1, fun hne => ?_⟩
  obtain ⟨b, o, rfl, h3⟩ := h2 hne
  have hb := e.block b (h0 b rfl) fun hb => (hM b hb _ h3.ty).2.1 rfl
  refine ⟨b, o, rfl, fun i f hx => ?_, h3.ty.same hb⟩
  obtain ⟨u, h4, h5⟩ := h3.get i f hx
  exact ⟨u, (cell_same hb _).trans h4, h5.apart hM e⟩
theorem NumBlk.apart {k : Nat} {x : Int} (h : NumBlk w k x) (hM : Apart w M) (e : Ext M w w1) : NumBlk w1 k x := by
  obtain ⟨pv, sv, h1, h2, h3⟩ := h
  exact ⟨pv, sv, e.get h1 fun hb => (hM k hb _ ⟨_, _, h1⟩).2.2 rfl, h2.apart hM e, h3.apart hM e⟩
theorem NumIs.apart {v : Value} {x : Int} (h : NumIs w v x) (hM : Apart w M) (e : Ext M w w1) : NumIs w1 v x := by
  refine ⟨h.1, ?_⟩
  rcases h.2 with h | ⟨h0, k, h1, h2⟩
  · exact .inl h
  · exact .inr ⟨h0, k, h1, h2.apart hM e⟩
end Go.Proofs.Ytgchfbfgjanaiaa

namespace Go.Proofs.Ytgchfbfgjanaiaa
open Go.RowKit Sr
theorem own_empty {w : World} {B e size : Nat} (hB : B ≤ w.heap.size) (cur : Array Value) (h : cur.size = 0) : (w.alloc (.cells cur e)).ownsRow B e size (.slice (some ⟨w.heap.size, 0, none⟩) 0 0) 0 [] :=
  World.ownsRow_made w cur 0 hB (Nat.zero_le _) (by simp [h])
theorem eql_nil {P : Program} {t e size bytes : Nat} {z : Value} (E : ElemT P t e size z bytes) (a : Option Addr) (n c : Nat) (w : World) :
    (binOp .eql t (.slice a n c) (.slice none 0 0)).run P w = .ok (.bool a.isNone) w := by
  simp only [binOp]
  simp [Op.equal, Op.maxDepth, Lib.run_equalIn_slice_nil w 9999 t e a n c 0 0 E.ht]
set_option maxRecDepth 100000 in
theorem clone_any {w : World} {v : Value} {l : List (Bool × Nat)} (h : TL w v l) :
    Calls Try.prog 93 #[v] w fun e w' => ∃ a c, e = .returned (.slice a l.length c) ∧ w'.ownsRow w.heap.size 98 2 (.slice a l.length c) l.length (tcells l) ∧ Below w.heap.size w w' := by
  obtain ⟨hl, hlt, a, c, rfl, hnc, hr⟩ := h
  have hnil := fun w => eql_nil el_term a l.length c w
  have HR := Sealed.mk hr; clear hr
  have HLT := Sealed.mk hlt; clear hlt
  cases a with
  | none =>
    simp only [Option.isNone_none] at hnil
    have hl0 : l = [] := by
      cases l with
      | nil => rfl
      | cons t l => obtain ⟨b, o, e, _⟩ := HR.out (by simp); cases e
    subst hl0
    simp only [List.length_nil] at hnil
    go_enter Try.func93, Try.ntmps93
    go_wp2
    go_ret
    exact ⟨_, _, rfl, World.ownsRow_nil _ _ _ _, Below.refl _ _⟩
  | some p =>
    simp only [Option.isNone_some] at hnil
    by_cases hl0 : l = []
    · subst hl0
      simp only [List.length_nil] at hnil
      go_enter Try.func93, Try.ntmps93
      go_wp2_with (at_builtin; go_must (refine ap_none el_term (.tmp 5) (.tmp 6) rfl rfl rfl (Nat.le_refl _) rfl ?_))
      go_ret
      exact ⟨_, _, rfl, own_empty (Nat.le_refl _) _ rfl, (Below.refl _ _).alloc (Nat.le_refl _) _⟩
    · obtain ⟨b, o, hp, hrd⟩ := HR.out hl0
      obtain rfl : p = ⟨b, o, none⟩ := Option.some.inj hp
      have hb := HLT.out b rfl
      have hlen := tcells_length l
      have HLEN := Sealed.mk hlen; clear hlen
      have HRD := Sealed.mk hrd; clear hrd hp
      go_enter Try.func93, Try.ntmps93
      go_wp2_with (at_builtin; go_must (refine ap_blk el_term (.tmp 5) (.tmp 6) rfl rfl rfl (own_empty (Nat.le_refl _) _ rfl) rfl (HLEN.out) ?g0 (tcells_one l) ?g1 ?g2 ?g3))
      case g0 => exact HRD.out.reads.same (Below.heap_alloc _ _ _ hb)
      case g1 => omega
      case g2 => simp
      case g3 =>
        intro v' w' hown hg _
        obtain ⟨a', c', rfl⟩ := own_slice hown
        have HO := Sealed.mk hown; clear hown
        have HG := Sealed.mk hg; clear hg
        go_wp2
        go_ret
        refine ⟨a', c', rfl, ?_, ?_⟩
        · simpa using HO.out
        · refine ((Below.refl _ _).alloc (Nat.le_refl _) _).grown HG.out (by simp) fun k hk => ?_
          have := Option.some.inj hk
          simp at this
          omega
theorem tcells_set : ∀ (l : List (Bool × Nat)) (i : Nat) (t : Bool × Nat), i < l.length → tcells (l.set i t) = ((tcells l).set (i * 2) (.bool t.1)).set (i * 2 + 1) (.int .i64 (t.2 : Int))
  | [], i, t, h => by simp at h
  | s :: l, 0, t, _ => by simp [tcells]
  | s :: l, i + 1, t, h => by
    have ih := tcells_set l i t (by simpa using h)
    have e : (i + 1) * 2 = i * 2 + 1 + 1 := by omega
    simp only [List.set_cons_succ, tcells, ih, e]
theorem tcells_set1 (l : List (Bool × Nat)) (i : Nat) (m : Bool) (t : Bool × Nat) (ht : l[i]? = some t) : tcells (l.set i (m, t.2)) = (tcells l).set (i * 2) (.bool m) := by
  obtain ⟨hi, rfl⟩ := List.getElem?_eq_some_iff.1 ht
  rw [tcells_set l i _ hi]
  have h2 := (tcells_at l i _ ht).2
  apply List.ext_getElem?
  intro j
  rw [List.getElem?_set]
  split
  · rename_i hj
    subst hj
    rw [List.getElem?_set_ne (by omega), h2]
    simp only [List.length_set, tcells_length]
    rw [if_pos (by omega)]
  · rfl
theorem tcells_set2 (l : List (Bool × Nat)) (i n : Nat) (t : Bool × Nat) (ht : l[i]? = some t) : tcells (l.set i (t.1, n)) = (tcells l).set (i * 2 + 1) (.int .i64 (n : Int)) := by
  obtain ⟨hi, rfl⟩ := List.getElem?_eq_some_iff.1 ht
  rw [tcells_set l i _ hi]
  have h2 := (tcells_at l i _ ht).1
  congr 1
  apply List.ext_getElem?
  intro j
  rw [List.getElem?_set]
  split
  · rename_i hj
    subst hj
    rw [h2, tcells_length, if_pos (by omega)]
  · rfl
theorem own_set {w : World} {B e size n : Nat} {v : Value} {xs : List Value} (h : w.ownsRow B e size v n xs) {b : Nat} (hb : v.ownBlock = some b) {j : Nat} (hj : j < n * size) (u : Value) : (w.setCell ⟨b, j, none⟩ u).ownsRow B e size v n (xs.set j u) := by
  obtain ⟨h1, h2⟩ := h
  refine ⟨by simpa using h1, ?_⟩
  rcases h2 with ⟨rfl, _⟩ | ⟨g, cap, cur, rfl, hB, hg, hn, hm, hs, ht⟩
  · simp [Value.ownBlock] at hb
  · have e1 : g = b := Option.some.inj hb
    subst e1
    refine .inr ⟨g, cap, cur.setIfInBounds j u, rfl, hB, blk_setCell hg j u, hn, hm, by simpa using hs, ?_⟩
    rw [Array.toList_setIfInBounds, ← ht, List.take_set]
theorem own_cell {w : World} {B e size n : Nat} {v : Value} {xs : List Value} (h : w.ownsRow B e size v n xs) {b : Nat} (hb : v.ownBlock = some b) {j : Nat} {u : Value} (hj : xs[j]? = some u) : w.cell? ⟨b, j, none⟩ = some u := by
  have hc := h.cells hb j u hj
  have : (⟨b, 0, none⟩ : Addr).add j = ⟨b, j, none⟩ := by unfold Addr.add; split <;> simp_all
  rwa [this] at hc
theorem own_free {w : World} {B e size n : Nat} {v : Value} {xs : List Value} (h : w.ownsRow B e size v n xs) {b : Nat} (hb : v.ownBlock = some b) (j : Nat) : w.frozen? ⟨b, j, none⟩ = false := by
  rcases h.2 with ⟨rfl, _⟩ | ⟨g, cap, cur, rfl, _, hg, _⟩
  · simp [Value.ownBlock] at hb
  · have e1 : g = b := Option.some.inj hb
    subst e1
    exact frozen_of_blk hg j
def negT (l : List (Bool × Nat)) : List (Bool × Nat) := l.map fun t => (!t.1, t.2)
def negTo (l : List (Bool × Nat)) (k : Nat) : List (Bool × Nat) := negT (l.take k) ++ l.drop k
theorem negTo_length (l : List (Bool × Nat)) (k : Nat) : (negTo l k).length = l.length := by simp [negTo, negT]; omega
theorem negTo_at {l : List (Bool × Nat)} {k : Nat} {t : Bool × Nat} (h : l[k]? = some t) : (negTo l k)[k]? = some t := by
  have hk := (List.getElem?_eq_some_iff.1 h).1
  unfold negTo negT
  rw [List.getElem?_append_right (by simp; omega)]
  simp only [List.length_map, List.length_take, List.getElem?_drop]
  rw [show k + (k - min k l.length) = k by omega]
  exact h
theorem negTo_succ {l : List (Bool × Nat)} {k : Nat} {t : Bool × Nat} (h : l[k]? = some t) : negTo l (k + 1) = (negTo l k).set k (!t.1, t.2) := by
  have hk := (List.getElem?_eq_some_iff.1 h).1
  have hd : l.drop k = t :: l.drop (k + 1) := by
    rw [List.drop_eq_getElem_cons hk]
    congr 1
    exact (List.getElem?_eq_some_iff.1 h).2
  unfold negTo negT
  rw [take_snoc h, List.map_append, hd, List.set_append_right _ _ (by simp; omega)]
  simp only [List.length_map, List.length_take]
  rw [show k - min k l.length = 0 by omega]
  simp
set_option maxRecDepth 100000 in
theorem negated_any {w : World} {v : Value} {l : List (Bool × Nat)} (h : TL w v l) :
    Calls Try.prog 77 #[v] w fun e w' => ∃ a c, e = .returned (.slice a l.length c) ∧ w'.ownsRow w.heap.size 98 2 (.slice a l.length c) l.length (tcells (negT l)) ∧ Below w.heap.size w w' := by
  have hl := h.1
  have hcl := clone_any h
  have HCL := Sealed.mk hcl; clear hcl h
  go_enter Try.func77, Try.ntmps77
  go_wp2_with (go_at_call 93; go_must (refine HCL.out.mono ?_; rintro e w1 ⟨a1, c1, rfl, hown, hb⟩))
  have HO1 := Sealed.mk hown; clear hown
  go_loopw [3, 8] (fun _ i wr => ∃ k : Nat, k ≤ l.length ∧ i = .int .i64 k ∧ wr.ownsRow w.heap.size 98 2 (.slice a1 l.length c1) l.length (tcells (negTo l k)) ∧ Below w.heap.size w wr) (fun _ i _ => l.length - (intOf i).toNat)
  case atStart => exact ⟨0, Nat.zero_le _, rfl, by simpa [negTo, negT] using HO1.out, hb⟩
  case round =>
    obtain ⟨k, hk, rfl, hown, hb⟩ := hrel
    by_cases hkl : k < l.length
    · obtain ⟨t, ht⟩ : ∃ t, l[k]? = some t := ⟨_, List.getElem?_eq_getElem hkl⟩
      obtain ⟨g, cap, e1⟩ := own_form hown (by omega)
      obtain ⟨rfl, _, rfl⟩ := Value.slice.inj e1
      have ht' := negTo_at ht
      have h1 := own_cell hown (b := g) rfl (tcells_at _ k t ht').1
      have h2 := own_free hown (b := g) rfl (k * 2)
      have HO := Sealed.mk hown; clear hown
      have HT := Sealed.mk ht; clear ht
      have HT' := Sealed.mk ht'; clear ht' e1
      go_wp2
      go_roundw
      case rel => exact ⟨k + 1, by omega, by go_num, by rw [negTo_succ HT.out, tcells_set1 _ _ _ _ HT'.out]; exact own_set HO.out rfl (by omega) _, hb.setCell (own_ge HO.out g rfl) _⟩
      case measure => simp [intOf]; omega
    · have HO := Sealed.mk hown; clear hown
      go_wp2
      go_ret
      refine ⟨a1, c1, rfl, ?_, hb⟩
      have := HO.out
      have e : k = l.length := by omega
      rw [e] at this
      simpa [negTo] using this
end Go.Proofs.Ytgchfbfgjanaiaa

namespace Go.Proofs.Ytgchfbfgjanaiaa
open Go.RowKit Sr
def sgnT : List (Bool × Nat) → Int
  | [] => 0
  | t :: _ => one t.1
theorem sgnT_enc (vs : List Int) (x : Int) : sgnT (enc vs x) = sg x := by
  have hv := val_form x
  obtain ⟨n, hu⟩ := form_form x
  unfold enc
  cases hf : form x with
  | nil => rw [hf] at hv; simp [val] at hv; subst hv; simp [sgnT, sg]
  | cons t l =>
    rw [hf] at hu hv
    have := val_ne hu
    rw [hv] at this
    simp [sgnT, this]
theorem sign_any {w : World} {v : Value} {l : List (Bool × Nat)} (h : TL w v l) :
    Calls Try.prog 83 #[v] w fun e w' => e = .returned (.int .i64 (sgnT l)) ∧ w = w' := by
  obtain ⟨a, n, c, rfl⟩ := h.slice
  obtain ⟨hn, hn1, hnc, hcell⟩ := h.cells
  clear h
  cases l with
  | nil =>
    obtain rfl : n = 0 := by simpa using hn
    clear hn hn1 hcell
    go_enter Try.func83, Try.ntmps83
    go_wp2
    go_ret
    exact ⟨rfl, rfl⟩
  | cons t l =>
    obtain ⟨b, o, rfl, h0, _⟩ := hcell 0 t rfl
    simp only [Nat.zero_mul, Nat.add_zero] at h0
    have hpos : 0 < n := by simp at hn; omega
    have h00 : ((n : Int) == 0) = false := by simp; omega
    clear hcell hn
    obtain ⟨m, k⟩ := t
    cases m
    · go_enter Try.func83, Try.ntmps83
      go_wp2
      go_ret
      exact ⟨rfl, rfl⟩
    · go_enter Try.func83, Try.ntmps83
      go_wp2
      go_ret
      exact ⟨rfl, rfl⟩
def revTo (l : List (Bool × Nat)) (k : Nat) : List (Bool × Nat) :=
  (List.range l.length).map fun p => if p < k ∨ l.length - k ≤ p then l.getD (l.length - 1 - p) (false, 0) else l.getD p (false, 0)
theorem revTo_length (l : List (Bool × Nat)) (k : Nat) : (revTo l k).length = l.length := by simp [revTo]
theorem revTo_get {l : List (Bool × Nat)} {k p : Nat} (hp : p < l.length) : (revTo l k)[p]? = some (if p < k ∨ l.length - k ≤ p then l.getD (l.length - 1 - p) (false, 0) else l.getD p (false, 0)) := by
  simp [revTo, hp]
theorem revTo_zero (l : List (Bool × Nat)) : revTo l 0 = l := by
  apply List.ext_getElem?
  intro p
  by_cases hp : p < l.length
  · rw [revTo_get hp, if_neg (by omega)]
    simp [List.getD_eq_getElem?_getD, hp]
  · rw [List.getElem?_eq_none (by rw [revTo_length]; omega), List.getElem?_eq_none (by omega)]
theorem revTo_end {l : List (Bool × Nat)} {k : Nat} (h : l.length ≤ 2 * k + 1) : revTo l k = l.reverse := by
  apply List.ext_getElem?
  intro p
  by_cases hp : p < l.length
  · rw [revTo_get hp, List.getElem?_reverse hp]
    have hq : l.length - 1 - p < l.length := by omega
    by_cases hc : p < k ∨ l.length - k ≤ p
    · rw [if_pos hc]; simp [List.getD_eq_getElem?_getD, hq]
    · rw [if_neg hc]
      have : l.length - 1 - p = p := by omega
      simp [List.getD_eq_getElem?_getD, hp, this]
  · rw [List.getElem?_eq_none (by rw [revTo_length]; omega), List.getElem?_eq_none (by simp; omega)]
theorem revTo_succ {l : List (Bool × Nat)} {k : Nat} (h : 2 * k + 1 < l.length) :
    revTo l (k + 1) = ((revTo l k).set k (l.getD (l.length - 1 - k) (false, 0))).set (l.length - 1 - k) (l.getD k (false, 0)) := by
  apply List.ext_getElem?
  intro p
  by_cases hp : p < l.length
  · rw [revTo_get hp, List.getElem?_set, List.getElem?_set]
    simp only [List.length_set, revTo_length]
    by_cases h1 : l.length - 1 - k = p
    · rw [if_pos h1, if_pos (by omega), if_pos (by omega)]
      congr 2; omega
    · rw [if_neg h1]
      by_cases h2 : k = p
      · rw [if_pos h2, if_pos (by omega), if_pos (by omega)]
        congr 2; omega
      · rw [if_neg h2, revTo_get hp]
        congr 1
        by_cases hc : p < k ∨ l.length - k ≤ p
        · rw [if_pos (by omega), if_pos hc]
        · rw [if_neg (by omega), if_neg hc]
  · rw [List.getElem?_eq_none (by rw [revTo_length]; omega), List.getElem?_eq_none (by simp [revTo_length]; omega)]
set_option maxRecDepth 100000 in
theorem reverse_any {w : World} {B n c : Nat} {a : Option Addr} {l : List (Bool × Nat)} (h : w.ownsRow B 98 2 (.slice a n c) n (tcells l)) (hl : n ≤ 100000) :
    Calls Try.prog 94 #[.slice a n c] w fun e w' => e = .returned (.tuple #[]) ∧ w'.ownsRow B 98 2 (.slice a n c) n (tcells l.reverse) ∧ Ext (fun k => (Value.slice a n c).ownBlock = some k) w w' := by
  have hlen : l.length = n := by have := h.1; rw [tcells_length] at this; omega
  subst hlen
  have HO := Sealed.mk h; clear h
  go_enter Try.func94, Try.ntmps94
  go_wp2
  go_loopw [2, 3] (fun i j wr => ∃ k : Nat, 2 * k ≤ l.length ∧ i = .int .i64 k ∧ j = .int .i64 ((l.length : Int) - 1 - k) ∧ wr.ownsRow B 98 2 (.slice a l.length c) l.length (tcells (revTo l k)) ∧ Ext (fun k => (Value.slice a l.length c).ownBlock = some k) w wr) (fun i _ _ => l.length - (intOf i).toNat)
  case atStart => exact ⟨0, Nat.zero_le _, rfl, by simp, by rw [revTo_zero]; exact HO.out, Ext.refl _ _⟩
  case round =>
    obtain ⟨k, hk, rfl, rfl, hown, he⟩ := hrel
    by_cases hkl : 2 * k + 1 < l.length
    · have ek : ((l.length : Int) - 1 - k) = ((l.length - 1 - k : Nat) : Int) := by omega
      obtain ⟨q, hq⟩ : ∃ q, q = l.length - 1 - k := ⟨_, rfl⟩
      rw [← hq] at ek
      rw [ek]
      obtain ⟨g, cap, e1⟩ := own_form hown (by omega)
      obtain ⟨rfl, _, rfl⟩ := Value.slice.inj e1
      have hkn : k < l.length := by omega
      have hqn : q < l.length := by omega
      have g1 := revTo_get (k := k) hkn
      rw [if_neg (by omega)] at g1
      have g2 := revTo_get (k := k) hqn
      rw [if_neg (by omega)] at g2
      have c1 := own_cell hown (b := g) rfl (tcells_at _ _ _ g1).1
      have c2 := own_cell hown (b := g) rfl (tcells_at _ _ _ g1).2
      have c3 := own_cell hown (b := g) rfl (tcells_at _ _ _ g2).1
      have c4 := own_cell hown (b := g) rfl (tcells_at _ _ _ g2).2
      have f1 := own_free hown (b := g) rfl (k * 2)
      have f2 := own_free hown (b := g) rfl (k * 2 + 1)
      have f3 := own_free hown (b := g) rfl (q * 2)
      have f4 := own_free hown (b := g) rfl (q * 2 + 1)
      have hlt : (k : Int) < (q : Int) := by omega
      have hne : k ≠ q := by omega
      have HOW := Sealed.mk hown; clear hown
      have HE := Sealed.mk he; clear he e1
      have HQ := Sealed.mk hq; clear hq
      have HEK := Sealed.mk ek; clear ek g1 g2
      generalize hx : l.getD k (false, 0) = X at *
      generalize hy : l.getD q (false, 0) = Y at *
      have HX := Sealed.mk hx; clear hx
      have HY := Sealed.mk hy; clear hy
      obtain ⟨x1, x2⟩ := X
      obtain ⟨y1, y2⟩ := Y
      go_wp2
      go_region
      go_wp2
      go_roundw
      case rel =>
        refine ⟨k + 1, by omega, by go_num, ?_, ?_, ?_⟩
        · have := HEK.out
          rw [show (q : Int) - 1 = (l.length : Int) - 1 - ((k + 1 : Nat) : Int) by omega]
        · rw [revTo_succ hkl, ← HQ.out, HX.out, HY.out, tcells_set _ q _ (by simp [revTo_length]; omega), tcells_set _ k _ (by rw [revTo_length]; omega)]
          exact own_set (own_set (own_set (own_set HOW.out rfl (by omega) _) rfl (by omega) _) rfl (by omega) _) rfl (by omega) _
        · exact ((((HE.out.setCell (p := ⟨g, k * 2, none⟩) (.inl rfl) _).setCell (p := ⟨g, k * 2 + 1, none⟩) (.inl rfl) _).setCell (p := ⟨g, q * 2, none⟩) (.inl rfl) _).setCell (p := ⟨g, q * 2 + 1, none⟩) (.inl rfl) _).drew
      case measure => simp [intOf]; omega
    · have hge : ((l.length : Int) - 1 - k) ≤ (k : Int) := by omega
      have HOW := Sealed.mk hown; clear hown
      have HE := Sealed.mk he; clear he
      go_wp2
      go_end0
      refine ⟨rfl, ?_, HE.out⟩
      have := HOW.out
      rwa [revTo_end (by omega)] at this
set_option maxRecDepth 100000 in
theorem newWorld_any {w : World} {U : List Int} (h0 : (0 : Int) ∈ U) (hU : U.length ≤ roomW) :
    Calls Try.prog 52 #[] w fun e w' => ∃ b, e = .returned (.pointer (some ⟨b.p, 0, none⟩)) ∧ WInv w' b [0] U ∧ Below w.heap.size w w' ∧ ∀ k, b.M k → w.heap.size ≤ k := by
  have hmm := @run_makeMap Try.prog
  go_enter Try.func52, Try.ntmps52
  go_wp2_with (refine wp_insert kk_string Try.underlying103 (.tmp 2) (.const (.string ⟨#[]⟩)) (.const (.int .i64 0)) rfl rfl (List.Pairwise.nil) (l := []) (r := w.heap.size + 1) ?m0 ⟨#[]⟩ 0 rfl rfl rfl ?_)
  case m0 => exact ⟨#[], 0, by simpa using blk_alloc (w.alloc (.cells #[.slice none 0 0] 96)) (.map #[] 0), rfl⟩
  intro w1 hm1 hg1
  have HM1 := Sealed.mk hm1; clear hm1
  have HG1 := Sealed.mk hg1; clear hg1
  go_wp2
  go_ret
  have hg1 := HG1.out
  have hs := hg1.size
  simp at hs
  have b0 : w1.heap[w.heap.size]? = some (.cells #[.slice none 0 0] 96 (0, 0)) := by
    rw [hg1.block w.heap.size (by simp; omega) (by simp)]
    rw [Below.heap_alloc _ _ _ (by simp)]
    exact blk_alloc _ _
  have hlt1 : w.heap.size + 1 < w1.heap.size := by omega
  have old : ∀ (o : Obj) (k : Nat), k < w1.heap.size → (((w1.alloc (.map #[] 0)).alloc (.map #[] 0)).alloc o).heap[k]? = w1.heap[k]? := fun o k hk => by
    rw [Below.heap_alloc _ o k (by simp; omega), Below.heap_alloc _ _ k (by simp; omega), Below.heap_alloc _ _ k hk]
  have hP : ((w1.alloc (.map #[] 0)).alloc (.map #[] 0)).heap.size = w1.heap.size + 2 := by simp
  refine ⟨⟨w1.heap.size + 2, w.heap.size, w.heap.size + 1, w1.heap.size, w1.heap.size + 1⟩, rfl, ⟨?_, ?_, hU, ?_, ?_, ?_, ?_, ?_⟩, ?_, ?_⟩
  · refine ⟨rfl, by simp, ?_⟩
    intro i x hx t ht
    cases i with
    | zero => simp at hx; subst hx; rw [form_zero] at ht; simp at ht
    | succ i => simp at hx
  · intro x hx; simp at hx; subst hx; exact h0
  · refine ⟨1, #[.slice none 0 0], ?_, ?_, by simp, by decide, rfl, ?_⟩
    · rw [← hP]; exact blk_alloc _ _
    · rw [old _ _ (by simp only; omega)]
      exact b0
    · intro i x hx
      cases i with
      | zero =>
        simp at hx; subst hx
        refine ⟨_, rfl, ?_, fun k hk => by simp [Value.ownBlock] at hk⟩
        have : enc [0] 0 = [] := by simp [enc, form_zero]
        rw [this]
        exact ⟨by simp, fun b hb => by simp [Value.ownBlock] at hb, none, 0, rfl, by simp, fun h => absurd rfl h⟩
      | succ i => simp at hx
  · have e : placesOf [0] = putK ([] : List (ByteArray × Int)) ⟨#[]⟩ 0 := by
      have : enc [0] 0 = [] := by simp [enc, form_zero]
      simp [placesOf, putK, lookK, this, keyS, keyNums, strOfNums]
    rw [e]
    refine HM1.out.same ?_
    exact old _ _ (by omega)
  · refine ⟨[], (MapIs.made w1).same ?_, List.Pairwise.nil, by simp⟩
    rw [Below.heap_alloc _ _ _ (by simp; omega), Below.heap_alloc _ _ _ (by simp)]
  · refine ⟨[], MapIs.same (w := (w1.alloc (.map #[] 0)).alloc (.map #[] 0)) ?_ ?_, List.Pairwise.nil, by simp⟩
    · have := MapIs.made (ek := encPair) (w1.alloc (.map #[] 0))
      simpa using this
    · rw [Below.heap_alloc _ _ _ (by simp)]
  · simp; omega
  · have h1 : Below w.heap.size w w1 := (((Below.refl _ w).alloc (Nat.le_refl _) _).alloc (by simp) _).grown hg1 (by simp; omega) (fun k hk => by have := Option.some.inj hk; omega)
    exact ((h1.alloc (by omega) _).alloc (by simp; omega) _).alloc (by simp; omega) _
  · intro k hk
    unfold WB.M at hk
    simp only at hk
    omega
end Go.Proofs.Ytgchfbfgjanaiaa

namespace Go.Proofs.Ytgchfbfgjanaiaa
open Go.RowKit Sr
theorem PartsAt.zero (w : World) : PartsAt w (.slice none 0 0) 0 := by
  refine ⟨fun b h => by simp [Value.ownBlock] at h, none, 0, by rw [plist_zero]; rfl, by rw [plist_zero]; exact Nat.le_refl _, fun h => absurd plist_zero h⟩
theorem TL.nil (w : World) : TL w (.slice none 0 0) [] := ⟨by simp, fun b h => by simp [Value.ownBlock] at h, none, 0, rfl, by simp, fun h => absurd rfl h⟩
set_option maxRecDepth 100000 in
set_option maxHeartbeats 2000000 in
theorem self_at {w0 w : World} {u : Value} {x : Int} (h : NumIs w0 u x) (hb0 : Below w0.heap.size w0 w) : Calls Try.prog 66 #[u] w fun e w' => ∃ v, e = .returned v ∧ TL w0 v (enc (pvs x) x) ∧ Below w.heap.size w w' := by
  rcases h.2 with ⟨rfl, rfl⟩ | ⟨h0, k, rfl, pv, sv, h1, h2, h3⟩
  · go_enter Try.func66, Try.ntmps66
    go_wp2_with fail
    refine bodyPost_ret (v := .slice none 0 0) (by simp [results, Try.results66, go_sem]) rfl ⟨_, rfl, by have := TL.nil w0; simpa [enc, form_zero] using this, ?_⟩
    exact (Below.refl _ _).alloc (Nat.le_refl _) _
  · obtain ⟨a, n, c, rfl⟩ := h3.slice
    have z := blk_alloc_old ((hb0.block k (lt_of_blk h1)).trans h1) (.cells #[.pointer (some ⟨k, 0, none⟩)] 30)
    have z1 : (w.alloc (.cells #[.pointer (some ⟨k, 0, none⟩)] 30)).cell? ⟨k, 1, none⟩ = some (.slice a n c) := (cell_of_blk z 1).trans rfl
    have H := Sealed.mk (And.intro h1 (And.intro h2 (And.intro h3 hb0))); clear h h1 h2 h3 z hb0
    go_enter Try.func66, Try.ntmps66
    go_wp2_with fail
    refine bodyPost_ret (v := .slice a n c) (by simp [results, Try.results66, go_sem]) rfl ⟨_, rfl, H.out.2.2.1, ?_⟩
    exact (Below.refl _ _).alloc (Nat.le_refl _) _
set_option maxRecDepth 100000 in
set_option maxHeartbeats 2000000 in
theorem parts_at {w0 w : World} {u : Value} {x : Int} (h : NumIs w0 u x) (hb0 : Below w0.heap.size w0 w) : Calls Try.prog 65 #[u] w fun e w' => ∃ v, e = .returned v ∧ PartsAt w0 v x ∧ Below w.heap.size w w' := by
  rcases h.2 with ⟨rfl, rfl⟩ | ⟨h0, k, rfl, pv, sv, h1, h2, h3⟩
  · go_enter Try.func65, Try.ntmps65
    go_wp2_with fail
    refine bodyPost_ret (v := .slice none 0 0) (by simp [results, Try.results65, go_sem]) rfl ⟨_, rfl, PartsAt.zero w0, ?_⟩
    exact (Below.refl _ _).alloc (Nat.le_refl _) _
  · have hsl : ∃ a n c, pv = .slice a n c := by
      obtain ⟨_, a, c, hh, _⟩ := h2
      exact ⟨a, _, c, hh⟩
    obtain ⟨a, n, c, rfl⟩ := hsl
    have z := blk_alloc_old ((hb0.block k (lt_of_blk h1)).trans h1) (.cells #[.pointer (some ⟨k, 0, none⟩)] 30)
    have z1 : (w.alloc (.cells #[.pointer (some ⟨k, 0, none⟩)] 30)).cell? ⟨k, 0, none⟩ = some (.slice a n c) := (cell_of_blk z 0).trans rfl
    have H := Sealed.mk (And.intro h1 (And.intro h2 (And.intro h3 hb0))); clear h h1 h2 h3 z hb0
    go_enter Try.func65, Try.ntmps65
    go_wp2_with fail
    refine bodyPost_ret (v := .slice a n c) (by simp [results, Try.results65, go_sem]) rfl ⟨_, rfl, H.out.2.1, ?_⟩
    exact (Below.refl _ _).alloc (Nat.le_refl _) _
theorem self_any {w : World} {u : Value} {x : Int} (h : NumIs w u x) : Calls Try.prog 66 #[u] w fun e w' => ∃ v, e = .returned v ∧ TL w v (enc (pvs x) x) ∧ Below w.heap.size w w' := self_at h (Below.refl _ _)
theorem parts_any {w : World} {u : Value} {x : Int} (h : NumIs w u x) : Calls Try.prog 65 #[u] w fun e w' => ∃ v, e = .returned v ∧ PartsAt w v x ∧ Below w.heap.size w w' := parts_at h (Below.refl _ _)
set_option maxRecDepth 100000 in
set_option maxHeartbeats 2000000 in
theorem Sign_any {w : World} {u : Value} {x : Int} (h : NumIs w u x) : Calls Try.prog 42 #[u] w fun e w' => e = .returned (.int .i64 (sg x)) ∧ Below w.heap.size w w' := by
  obtain ⟨p, hp⟩ : ∃ p, u = .agg #[.pointer p] := by
    rcases h.2 with ⟨_, h⟩ | ⟨_, k, h, _⟩
    · exact ⟨none, h⟩
    · exact ⟨_, h⟩
  subst hp
  have hs := self_any (h.below ((Below.refl _ _).alloc (Nat.le_refl _) (.cells #[.pointer p] 30)))
  have HS := Sealed.mk hs; clear hs
  go_enter Try.func42, Try.ntmps42
  go_wp2_with (first
    | (go_at_call 66; go_must (refine HS.out.mono ?_; rintro e w1 ⟨v, rfl, hl, hb⟩; have hsg := sign_any (hl.below hb); rw [sgnT_enc] at hsg; have HSG := Sealed.mk hsg; clear hsg hl; have HB := Sealed.mk hb; clear hb))
    | (go_at_call 83; go_must (refine HSG.out.mono ?_; rintro e w2 ⟨rfl, rfl⟩)))
  go_ret
  refine ⟨rfl, ?_⟩
  have b0 : Below w.heap.size w (w.alloc (.cells #[.pointer p] 30)) := (Below.refl _ _).alloc (Nat.le_refl _) _
  have hb := HB.out
  exact b0.trans ⟨hb.os, hb.tape, hb.output, hb.size, fun k hk => hb.block k (by have := b0.size; omega)⟩
end Go.Proofs.Ytgchfbfgjanaiaa

namespace Go.Proofs.Ytgchfbfgjanaiaa
open Go.RowKit Sr
theorem idxOf_take {l : List Nat} {g k : Nat} (h : g ∈ l.take k) : (l.take k).idxOf g = l.idxOf g := by
  conv => rhs; rw [← List.take_append_drop k l]
  rw [List.idxOf_append, if_pos h]
theorem part_ahead {x : Int} {k e : Nat} (he : (plist x)[k]? = some e) {g : Nat} (hg : g ∈ exps (e : Int)) : g ∈ (plist x).take k := by
  have hep : Part e x := mem_plist.1 (List.mem_of_getElem? he)
  have hgp : g ∈ plist x := mem_plist.2 (hep.up hg)
  have hlt : g < e := by have := exps_lt hg; simpa using this
  obtain ⟨j, hj⟩ := List.getElem?_of_mem hgp
  obtain ⟨hjl, hj'⟩ := List.getElem?_eq_some_iff.1 hj
  obtain ⟨hkl, hk'⟩ := List.getElem?_eq_some_iff.1 he
  have hup := List.pairwise_iff_getElem.1 (plist_up x)
  have hjk : j < k := by
    rcases Nat.lt_trichotomy j k with h | h | h
    · exact h
    · subst h; omega
    · have := hup k j hkl hjl h; omega
  rw [List.mem_take_iff_getElem]
  exact ⟨j, by omega, hj'⟩
theorem step_ap_lit {P : Program} {ops : Array Oper} {o : Oper} {a : Act} {K : Act → World → Prop} {Q : Exit → Act → World → Prop} {X : Prop} {t e size bytes : Nat} {z : Value} (E : ElemT P t e size z bytes) {W : World} {B n b : Nat} {v u : Value} {xs : List Value} (s x : Operand) (hgd : o.guard = none)
    (ho : o.op = .call { callee := .builtin .append, args := #[s, x], argTypes := #[t, t] }) (hs : a.eval s = v) (hown : W.ownsRow B e size v n xs)
    (hx : a.eval x = .slice (some ⟨b, 0, none⟩) 1 1) (hb : b = W.heap.size) (h1 : u.oneCell' = true) (hs1 : size = 1)
    (hn : n + 1 ≤ 1000000000) (hB : B ≤ W.heap.size)
    (h : ∀ g cap w', w'.ownsRow B e size (.slice (some ⟨g, 0, none⟩) (n + 1) cap) (n + 1) (xs ++ [u]) → (W.alloc (.cells #[u] e)).grownBy w' v.ownBlock → NewOr (W.alloc (.cells #[u] e)) v (.slice (some ⟨g, 0, none⟩) (n + 1) cap) → K (a.put o.dst (.slice (some ⟨g, 0, none⟩) (n + 1) cap)) w') :
    if Region.wanted o (yielded ops a.tmps) = true then Oper.wp P o a (W.alloc (.cells #[u] e)) K Q else X := by
  subst hb
  subst hs1
  obtain ⟨i0, hi, hzz⟩ := Option.map_eq_some_iff.1 E.info
  simp only [Prod.mk.injEq] at hzz
  obtain ⟨hz0, hz1, hz2⟩ := hzz
  have hsm := E.small
  have hmul : (n + 1) * bytes ≤ 1000000000 * 64 := Nat.mul_le_mul hn E.small
  refine step_append_lies _ hgd s x t ho B e i0 z 1 bytes E.ht hi hz0 hz1 hz2 E.hz E.pos v n xs hs (hown.alloc _) ⟨W.heap.size, 0, none⟩ 1 1 [u] hx (by simp) (fun j u' hu => ?_) (by simpa using h1) (by omega) (by unfold maxLen; omega) (by omega) (by simp; omega) _ rfl fun g cap w' q1 q2 q3 q4 => h g cap w' q1 q2 ?_
  · cases j with
    | zero =>
      simp at hu
      subst hu
      have : (⟨W.heap.size, 0, none⟩ : Addr).add 0 = ⟨W.heap.size, 0, none⟩ := by unfold Addr.add; split <;> simp_all
      rw [this, cell_of_blk (blk_alloc W _)]
      rfl
    | succ j => simp at hu
  · rcases q3 with q3 | q3
    · exact .inl (by rw [q3]; rfl)
    · exact .inr ⟨g, rfl, by rw [q3]; exact Nat.le_refl _⟩
end Go.Proofs.Ytgchfbfgjanaiaa

namespace Go.Proofs.Ytgchfbfgjanaiaa
open Go.RowKit Sr
def plTo (f : Nat → Nat) (l : List (Bool × Nat)) (k : Nat) : List (Bool × Nat) := (l.take k).map (fun t => (t.1, f t.2)) ++ l.drop k
theorem plTo_length (f : Nat → Nat) (l : List (Bool × Nat)) (k : Nat) : (plTo f l k).length = l.length := by simp [plTo]; omega
theorem plTo_at {f : Nat → Nat} {l : List (Bool × Nat)} {k : Nat} {t : Bool × Nat} (h : l[k]? = some t) : (plTo f l k)[k]? = some t := by
  obtain ⟨hk, rfl⟩ := List.getElem?_eq_some_iff.1 h
  unfold plTo
  rw [List.getElem?_append_right (by simp; omega)]
  simp [Nat.min_eq_left (Nat.le_of_lt hk), hk]
theorem plTo_succ {f : Nat → Nat} {l : List (Bool × Nat)} {k : Nat} {t : Bool × Nat} (h : l[k]? = some t) : plTo f l (k + 1) = (plTo f l k).set k (t.1, f t.2) := by
  obtain ⟨hk, rfl⟩ := List.getElem?_eq_some_iff.1 h
  unfold plTo
  rw [take_snoc h, List.map_append, List.append_assoc, List.set_append_right _ _ (by simp; omega), List.drop_eq_getElem_cons hk]
  simp [Nat.min_eq_left (Nat.le_of_lt hk)]
  rw [List.drop_eq_getElem_cons hk]
  rfl
end Go.Proofs.Ytgchfbfgjanaiaa

namespace Go.Proofs.Ytgchfbfgjanaiaa
open Go.RowKit Sr
theorem WStep.kept {U : List Int} {w w1 : World} {b : WB} {vs : List Int} (h : WInv w b vs U) (hb : Below w.heap.size w w1) : WStep U w w1 b b vs vs :=
  ⟨h.below hb, List.prefix_refl _, Ext.of_below hb, rfl, rfl, rfl, rfl, .inl rfl⟩
set_option maxRecDepth 100000 in
set_option maxHeartbeats 4000000 in
theorem takeF_any {w : World} {b : WB} {vs U : List Int} (h : WInv w b vs U) {v : Value} {l : List (Bool × Nat)} (hl : TL w v l) {bm bw : Nat} {pv : Value} {ty1 ty2 : TypeId}
    (hm : w.heap[bm]? = some (.cells #[pv] ty1 (0, 0))) (hw : w.heap[bw]? = some (.cells #[.pointer (some ⟨b.p, 0, none⟩)] ty2 (0, 0))) (f : Nat → Nat)
    (hf : ∀ t ∈ l, ∃ pb np pc, pv = .slice (some ⟨pb, 0, none⟩) np pc ∧ t.2 < np ∧ np ≤ 100000 ∧ w.cell? ⟨pb, t.2, none⟩ = some (.int .i64 (f t.2 : Int)))
    {y : Int} (hy : l.map (fun t => (t.1, f t.2)) = enc vs y) (hc : Cov vs y) (hU : y ∈ U) :
    Calls Try.prog 98 #[v, .pointer (some ⟨bm, 0, none⟩), .pointer (some ⟨bw, 0, none⟩)] w fun e w' => ∃ vs' b', e = .returned (.int .i64 (vs'.idxOf y : Nat)) ∧ y ∈ vs' ∧ WStep U w w' b b' vs vs' ∧ FStep noB w w' b b' vs vs' := by
  have hll := hl.1
  have hcl := clone_any hl
  obtain ⟨n, hn⟩ : ∃ n, n = l.length := ⟨_, rfl⟩
  rw [← hn] at hll hcl
  have HCL := Sealed.mk hcl; clear hcl hl
  have HN := Sealed.mk hn; clear hn
  have H := Sealed.mk h; clear h
  have HV := Sealed.mk (And.intro hm (And.intro hw (And.intro hf (And.intro hy (And.intro hc hU))))); clear hm hw hf hy hc hU
  go_enter Try.func98, Try.ntmps98
  go_wp2_with (go_at_call 93; go_must (refine HCL.out.mono ?_; rintro e w1 ⟨a1, c1, rfl, hown, hb⟩))
  have HO1 := Sealed.mk hown; clear hown
  go_loopg [5, 10] n (fun j _ i wr => ∃ k : Nat, j = n - k ∧ k ≤ n ∧ i = .int .i64 (k : Int) ∧ wr.ownsRow w.heap.size 98 2 (.slice a1 n c1) n (tcells (plTo f l k)) ∧ Below w.heap.size w wr)
  case atStart => exact ⟨0, rfl, Nat.zero_le _, rfl, by simpa [plTo] using HO1.out, hb⟩
  case round =>
    obtain ⟨k, rfl, hk, rfl, hown, hb⟩ := hrel
    by_cases hkl : k < n
    · obtain ⟨t, ht⟩ : ∃ t, l[k]? = some t := ⟨_, List.getElem?_eq_getElem (by rw [← HN.out]; exact hkl)⟩
      obtain ⟨g, cap, e1⟩ := own_form hown (by omega)
      obtain ⟨rfl, _, rfl⟩ := Value.slice.inj e1
      have ht' := plTo_at (f := f) ht
      obtain ⟨pb, np, pc, rfl, hq, hnp, hcell⟩ := HV.out.2.2.1 _ (List.mem_of_getElem? ht)
      obtain ⟨m, q⟩ := t
      simp only at hq hcell
      have h1 := own_cell hown (b := g) rfl (tcells_at _ k _ ht').2
      have h2 := own_free hown (b := g) rfl (k * 2 + 1)
      have c0 : wr.drew.cell? ⟨bm, 0, none⟩ = some (.slice (some ⟨pb, 0, none⟩) np pc) := (cell_of_blk ((hb.block bm (lt_of_blk HV.out.1)).trans HV.out.1) 0).trans rfl
      have c1' : wr.drew.cell? ⟨pb, q, none⟩ = some (.int .i64 (f q : Int)) := (cell_same (hb.block pb (lt_of_cell hcell)) q).trans hcell
      have h1' : wr.drew.cell? ⟨g, k * 2 + 1, none⟩ = some (.int .i64 (q : Int)) := h1
      have h2' : wr.drew.frozen? ⟨g, k * 2 + 1, none⟩ = false := h2
      have HO := Sealed.mk (And.intro hown (And.intro hb (And.intro ht ht'))); clear hown hb ht ht' e1 h1 h2 hcell
      go_wp2_with fail
      refine wp_region_still_tail 12 (by kernel_rfl) (by kernel_rfl) ?_
      simp only [List.take_succ_cons, List.take_zero, List.drop_succ_cons, List.drop_zero]
      (repeat still_step)
      refine wpStill_nil ?_
      change wpList _ _ _ _ _ wr.drew
      go_wp2_with fail
      go_roundg (n - (k + 1))
      case measure => omega
      case rel =>
        obtain ⟨hown, hb, ht, ht'⟩ := HO.out
        exact ⟨k + 1, rfl, by omega, by push_cast; rfl, by rw [plTo_succ ht, tcells_set2 _ _ _ _ ht']; exact own_set (w := wr.drew) hown rfl (by omega) _, Below.setCell (w := wr.drew) ⟨hb.os, hb.tape, hb.output, hb.size, hb.block⟩ (own_ge hown g rfl) _⟩
    · have e : k = l.length := by rw [← HN.out]; omega
      have hown' : wr.ownsRow w.heap.size 98 2 (.slice a1 n c1) n (tcells (enc vs y)) := by
        rw [e] at hown
        rw [← HV.out.2.2.2.1]
        simpa [plTo] using hown
      have hlen : (enc vs y).length = n := by rw [← HV.out.2.2.2.1, HN.out]; simp
      have htl : TL wr (.slice a1 n c1) (enc vs y) := TL.of_own (by rw [hlen]; exact hown') (by omega)
      have hid := id_any (H.out.below hb) htl HV.out.2.2.2.2.1 HV.out.2.2.2.2.2 (fun q hq hM => by have h1 := own_ge hown' q hq; have h2 := H.out.lt q hM; omega)
      have cw : wr.cell? ⟨bw, 0, none⟩ = some (.pointer (some ⟨b.p, 0, none⟩)) := (cell_of_blk ((hb.block bw (lt_of_blk HV.out.2.1)).trans HV.out.2.1) 0).trans rfl
      have HID := Sealed.mk hid; clear hid
      have HO := Sealed.mk (And.intro hown' hb); clear hown hown' hb htl hlen e
      go_wp2_with (go_at_call 55; go_must (refine HID.out.mono ?_; rintro e2 w2 ⟨vs', b', rfl, hy2, hs2, hf2⟩))
      go_ret
      have hb := HO.out.2
      refine ⟨vs', b', rfl, hy2, (WStep.kept H.out hb).trans hs2, ?_⟩
      exact (FStep.same (X := noB) (Ext.of_below (M := noB) hb) (H.out.lt b.f (.inr (.inl rfl))) (fun e => e)).trans hf2 hb.size (fun q hq => .inr (own_ge HO.out.1 q hq))
end Go.Proofs.Ytgchfbfgjanaiaa
