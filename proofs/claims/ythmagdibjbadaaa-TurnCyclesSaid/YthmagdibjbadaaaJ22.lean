/-
  num.world.give's placed
  a num.N in memory
  a number stays while a variable that holds a pointer is written
  (num.N).self, parts, Sign
  num.world.give: when a number is allowed, plain
  numbers that a machine has are allowed; when a number is an int64: plain
  when a number is an int64: plain
  (num.N).Int's closure
  num.world.give's table of places, plain
  num.world.give: the parts in order, plain
  num.world.give: the number in the making
-/
import Derived.Test.YthmagdibjbadaaaJ21
import Derived.StillTailTactics
import Derived.Test.YthmagdibjbadaaaJ03
import Derived.Test.YthmagdibjbadaaaJ17
import Derived.Deep.LoopGhost
import Derived.Deep.DeepCutAuto
import Derived.Deep.QuietTactic
import Derived.BigQuiet
import Derived.Deep.AppendLies
set_option linter.unusedSimpArgs false
set_option linter.unusedVariables false
namespace Go.Proofs.Ythmagdibjbadaaa
open Go.RowKit Sr

/-- the first k placed anew -/
def plTo (f : Nat → Nat) (l : List (Bool × Nat)) (k : Nat) : List (Bool × Nat) := (l.take k).map (fun t => (t.1, f t.2)) ++ l.drop k

theorem plTo_length (f : Nat → Nat) (l : List (Bool × Nat)) (k : Nat) : (plTo f l k).length = l.length := by simp [plTo]; omega
theorem plTo_at {f : Nat → Nat} {l : List (Bool × Nat)} {k : Nat} {t : Bool × Nat} (h : l[k]? = some t) : (plTo f l k)[k]? = some t := by
  obtain ⟨hk, rfl⟩ := List.getElem?_eq_some_iff.1 h
  unfold plTo
  rw [List.getElem?_append_right (by simp; omega)]
  simp [Nat.min_eq_left (Nat.le_of_lt hk), hk]
theorem plTo_succ {f : Nat → Nat} {l : List (Bool × Nat)} {k : Nat} {t : Bool × Nat} (h : l[k]? = some t) : plTo f l (k + 1) = (plTo f l k).set k (t.1, f t.2) := by
  obtain ⟨hk, rfl⟩ := List.getElem?_eq_some_iff.1 h
  unfold plTo
  rw [take_snoc h, List.map_append, List.append_assoc, List.set_append_right _ _ (by simp; omega), List.drop_eq_getElem_cons hk]
  simp [Nat.min_eq_left (Nat.le_of_lt hk)]
  rw [List.drop_eq_getElem_cons hk]
  rfl

set_option maxRecDepth 100000 in
set_option maxHeartbeats 4000000 in
theorem placed_any {w : World} {v : Value} {l : List (Bool × Nat)} (h : TL w v l) {bm mp : Nat} (hv : Var w bm (.map (some mp))) {pl : List (Int × Int)} (hm : MapIs (fun n : Int => Value.int .i64 n) w mp pl) (f : Nat → Nat)
    (hf : ∀ t ∈ l, lookK pl (t.2 : Int) = some (f t.2 : Int)) :
    Calls Try.prog 34 #[v, pt bm] w fun e w' => ∃ a c, e = .returned (.slice a l.length c) ∧ w'.ownsRow w.heap.size 82 2 (.slice a l.length c) l.length (tcells (l.map fun t => (t.1, f t.2))) ∧ Below w.heap.size w w' := by
  have hl := h.1
  have hcl := clone_any h
  obtain ⟨n, hn⟩ : ∃ n, n = l.length := ⟨_, rfl⟩
  rw [← hn] at hl hcl ⊢
  have HCL := Sealed.mk hcl; clear hcl h
  have HN := Sealed.mk hn; clear hn
  have HV := Sealed.mk (And.intro hv (And.intro hm hf)); clear hv hm hf
  unfold pt
  go_enter Try.func34, Try.ntmps34
  go_wp2_with (go_at_call 35; go_must (refine HCL.out.mono ?_; rintro e w1 ⟨a1, c1, rfl, hown, hb⟩))
  have HO1 := Sealed.mk hown; clear hown
  go_loopg [4, 9] n (fun j _ i wr => ∃ k : Nat, j = n - k ∧ k ≤ n ∧ i = .int .i64 (k : Int) ∧ wr.ownsRow w.heap.size 82 2 (.slice a1 n c1) n (tcells (plTo f l k)) ∧ Below w.heap.size w wr)
  case atStart => exact ⟨0, rfl, Nat.zero_le _, rfl, by simpa [plTo] using HO1.out, hb⟩
  case round =>
    obtain ⟨k, rfl, hk, rfl, hown, hb⟩ := hrel
    by_cases hkl : k < n
    · obtain ⟨t, ht⟩ : ∃ t, l[k]? = some t := ⟨_, List.getElem?_eq_getElem (by rw [← HN.out]; exact hkl)⟩
      obtain ⟨g, cap, e1⟩ := own_form hown (by omega)
      obtain ⟨rfl, _, rfl⟩ := Value.slice.inj e1
      have ht' := plTo_at (f := f) ht
      obtain ⟨m, q⟩ := t
      have hlt := own_block hown g rfl
      have h1 := own_cell hown (b := g) rfl (tcells_at _ k _ ht').2
      have h2 := own_free hown (b := g) rfl (k * 2 + 1)
      have c0 : wr.cell? ⟨bm, 0, none⟩ = some (.map (some mp)) := by rw [cell_same (hb.block bm HV.out.1.lt)]; exact HV.out.1.cell
      have hlk := run_lookup kk_int Try.underlying77 zero_int (HV.out.2.1.same (w1 := wr.drew) (hb.block mp HV.out.2.1.lt)) (q : Int)
      rw [HV.out.2.2 _ (List.mem_of_getElem? ht)] at hlk
      simp only [Option.getD_some] at hlk
      have c0' : wr.drew.cell? ⟨bm, 0, none⟩ = some (.map (some mp)) := c0
      have h1' : wr.drew.cell? ⟨g, k * 2 + 1, none⟩ = some (.int .i64 (q : Int)) := h1
      have h2' : wr.drew.frozen? ⟨g, k * 2 + 1, none⟩ = false := h2
      have HO := Sealed.mk (And.intro hown (And.intro hb (And.intro ht ht'))); clear hown hb ht ht' e1 c0 h1 h2
      go_wp2_with fail
      refine wp_region_still_tail 11 (by kernel_rfl) (by kernel_rfl) ?_
      simp only [List.take_succ_cons, List.take_zero, List.drop_succ_cons, List.drop_zero]
      repeat still_step
      refine wpStill_nil ?_
      change wpList _ _ _ _ _ wr.drew
      go_wp2_with fail
      go_roundg (n - (k + 1))
      case measure => omega
      case rel =>
        obtain ⟨hown, hb, ht, ht'⟩ := HO.out
        exact ⟨k + 1, rfl, by omega, by push_cast; rfl, by rw [plTo_succ ht, tcells_set2 _ _ _ _ ht']; exact own_set (w := wr.drew) hown rfl (by omega) _, Below.setCell (w := wr.drew) ⟨hb.os, hb.tape, hb.output, hb.size, hb.block⟩ (own_ge hown g rfl) _⟩
    · have HO := Sealed.mk (And.intro hown hb); clear hown hb
      go_wp2_with fail
      go_ret
      obtain ⟨hown, hb⟩ := HO.out
      refine ⟨a1, c1, rfl, ?_, hb⟩
      have e : k = l.length := by rw [← HN.out]; omega
      rw [e] at hown
      simpa [plTo] using hown

end Go.Proofs.Ythmagdibjbadaaa

namespace Go.Proofs.Ythmagdibjbadaaa
open Go.RowKit Sr

/-- the parts of a number but itself, as numbers: the list in which its terms' exponents are told by places -/
noncomputable def pvs (x : Int) : List Int := (plist x).map fun e : Nat => (e : Int)

theorem pvs_nodup (x : Int) : (pvs x).Nodup := by
  have := plist_up x
  unfold pvs List.Nodup
  rw [List.pairwise_map]
  exact this.imp fun h => by omega

theorem pvs_mem {x : Int} {e : Nat} : (e : Int) ∈ pvs x ↔ Part e x := by
  unfold pvs
  rw [List.mem_map]
  constructor
  · rintro ⟨f, hf, h⟩
    have : f = e := by omega
    subst this
    exact mem_plist.1 hf
  · intro h
    exact ⟨e, mem_plist.2 h, rfl⟩

theorem pvs_cov (x : Int) : Cov (pvs x) x := fun t ht => pvs_mem.2 (.here (mem_exps.2 ⟨t, ht, rfl⟩))
theorem pvs_cov_part {x : Int} {e : Nat} (h : Part e x) : Cov (pvs x) (e : Int) := fun t ht => pvs_mem.2 (h.up (mem_exps.2 ⟨t, ht, rfl⟩))

/-- a slice of the parts' terms -/
def PartsAt (w : World) (v : Value) (x : Int) : Prop :=
  (∀ b, v.ownBlock = some b → b < w.heap.size) ∧ ∃ a c, v = .slice a (plist x).length c ∧ (plist x).length ≤ c ∧
    (plist x ≠ [] → ∃ b o, a = some ⟨b, o, none⟩ ∧ ∀ (i e : Nat), (plist x)[i]? = some e → ∃ u, w.cell? ⟨b, o + i, none⟩ = some u ∧ TL w u (enc (pvs x) (e : Int)))

/-- the block of a number that is not 0 -/
def NumBlk (w : World) (k : Nat) (x : Int) : Prop := ∃ pv sv, w.heap[k]? = some (.cells #[pv, sv] 86 (0, 0)) ∧ PartsAt w pv x ∧ TL w sv (enc (pvs x) x)

/-- THE VALUE v IS THE NUMBER x -/
def NumIs (w : World) (v : Value) (x : Int) : Prop := Allowed x ∧ ((x = 0 ∧ v = .agg #[.pointer none]) ∨ (x ≠ 0 ∧ ∃ k, v = .agg #[.pointer (some ⟨k, 0, none⟩)] ∧ NumBlk w k x))

theorem PartsAt.below {w w1 : World} {v : Value} {x : Int} (h : PartsAt w v x) (e : Below w.heap.size w w1) : PartsAt w1 v x := by
  obtain ⟨h0, a, c, rfl, h1, h2⟩ := h
  refine ⟨fun b hb => Nat.lt_of_lt_of_le (h0 b hb) e.size, a, c, rfl, h1, fun hne => ?_⟩
  obtain ⟨b, o, rfl, h3⟩ := h2 hne
  refine ⟨b, o, rfl, fun i x hx => ?_⟩
  obtain ⟨u, h4, h5⟩ := h3 i x hx
  exact ⟨u, (cell_same (e.block b (h0 b rfl)) _).trans h4, h5.below e⟩

theorem NumBlk.below {w w1 : World} {k : Nat} {x : Int} (h : NumBlk w k x) (e : Below w.heap.size w w1) : NumBlk w1 k x := by
  obtain ⟨pv, sv, h1, h2, h3⟩ := h
  exact ⟨pv, sv, (e.block k (lt_of_blk h1)).trans h1, h2.below e, h3.below e⟩

theorem NumIs.below {w w1 : World} {v : Value} {x : Int} (h : NumIs w v x) (e : Below w.heap.size w w1) : NumIs w1 v x := by
  refine ⟨h.1, ?_⟩
  rcases h.2 with h | ⟨h0, k, h1, h2⟩
  · exact .inl h
  · exact .inr ⟨h0, k, h1, h2.below e⟩

theorem NumIs.zero (w : World) : NumIs w (.agg #[.pointer none]) 0 := ⟨allowed_zero, .inl ⟨rfl, rfl⟩⟩

/-- a form whose exponents are told by places of a world, told by places of the parts -/
theorem enc_replace {vs : List Int} {x y : Int} (hy : Cov (pvs x) y) {f : Nat → Nat} (hf : ∀ e : Nat, Part e x → f (vs.idxOf (e : Int)) = (pvs x).idxOf (e : Int)) :
    (enc vs y).map (fun t => (t.1, f t.2)) = enc (pvs x) y := by
  unfold enc
  rw [List.map_map]
  apply List.map_congr_left
  intro t ht
  simp only [Function.comp]
  rw [hf _ (pvs_mem.1 (hy t ht))]

end Go.Proofs.Ythmagdibjbadaaa

namespace Go.Proofs.Ythmagdibjbadaaa
open Go.RowKit Sr

variable {w w1 : World} {q : Nat} {p : Option Addr} {ty : TypeId} {fz : Nat × Nat}

theorem cell_ptr (hq : w.heap[q]? = some (.cells #[.pointer p] ty fz)) {i : Nat} {v : Value} (h : w.cell? ⟨q, i, none⟩ = some v) : v = .pointer p := by
  rw [cell_of_blk hq] at h
  cases i with
  | zero => simpa using h.symm
  | succ i => simp at h

theorem TL.other {v : Value} {l : List (Bool × Nat)} (h : TL w v l) (hq : w.heap[q]? = some (.cells #[.pointer p] ty fz)) (e : Ext (fun k => k = q) w w1) : TL w1 v l := by
  obtain ⟨h1, h0, a, c, rfl, h2, h3⟩ := h
  refine ⟨h1, fun b h => Nat.lt_of_lt_of_le (h0 b h) e.size, a, c, rfl, h2, fun hl => ?_⟩
  obtain ⟨b, o, rfl, hr⟩ := h3 hl
  refine ⟨b, o, rfl, hr.same (e.block b (h0 b rfl) fun hb => ?_)⟩
  subst hb
  cases l with
  | nil => exact hl rfl
  | cons t l =>
    have := cell_ptr hq (hr 0 (.bool t.1) rfl)
    cases this

theorem PartsAt.other {v : Value} {x : Int} (h : PartsAt w v x) (hq : w.heap[q]? = some (.cells #[.pointer p] ty fz)) (e : Ext (fun k => k = q) w w1) : PartsAt w1 v x := by
  obtain ⟨h0, a, c, rfl, h1, h2⟩ := h
  refine ⟨fun b hb => Nat.lt_of_lt_of_le (h0 b hb) e.size, a, c, rfl, h1, fun hne => ?_⟩
  obtain ⟨b, o, rfl, h3⟩ := h2 hne
  refine ⟨b, o, rfl, fun i f hx => ?_⟩
  obtain ⟨u, h4, h5⟩ := h3 i f hx
  refine ⟨u, (cell_same (e.block b (h0 b rfl) fun hb => ?_) _).trans h4, h5.other hq e⟩
  subst hb
  have := cell_ptr hq h4
  obtain ⟨a', n', c', hu⟩ := h5.slice
  rw [hu] at this
  cases this

theorem NumBlk.other {k : Nat} {x : Int} (h : NumBlk w k x) (hq : w.heap[q]? = some (.cells #[.pointer p] ty fz)) (e : Ext (fun k => k = q) w w1) : NumBlk w1 k x := by
  obtain ⟨pv, sv, h1, h2, h3⟩ := h
  refine ⟨pv, sv, e.get h1 fun hb => ?_, h2.other hq e, h3.other hq e⟩
  have hb' : k = q := hb
  rw [hb', hq] at h1
  simp at h1

theorem NumIs.other {v : Value} {x : Int} (h : NumIs w v x) (hq : w.heap[q]? = some (.cells #[.pointer p] ty fz)) (e : Ext (fun k => k = q) w w1) : NumIs w1 v x := by
  refine ⟨h.1, ?_⟩
  rcases h.2 with h | ⟨h0, k, h1, h2⟩
  · exact .inl h
  · exact .inr ⟨h0, k, h1, h2.other hq e⟩

end Go.Proofs.Ythmagdibjbadaaa

namespace Go.Proofs.Ythmagdibjbadaaa
open Go.RowKit Sr

theorem PartsAt.zero (w : World) : PartsAt w (.slice none 0 0) 0 := by
  refine ⟨fun b h => by simp [Value.ownBlock] at h, none, 0, by rw [plist_zero]; rfl, by rw [plist_zero]; exact Nat.le_refl _, fun h => absurd plist_zero h⟩

theorem TL.nil (w : World) : TL w (.slice none 0 0) [] := ⟨by simp, fun b h => by simp [Value.ownBlock] at h, none, 0, rfl, by simp, fun h => absurd rfl h⟩

set_option maxRecDepth 100000 in
set_option maxHeartbeats 2000000 in
theorem self_at {w0 w : World} {u : Value} {x : Int} (h : NumIs w0 u x) (hb0 : Below w0.heap.size w0 w) : Calls Try.prog 28 #[u] w fun e w' => ∃ v, e = .returned v ∧ TL w0 v (enc (pvs x) x) ∧ Below w.heap.size w w' := by
  rcases h.2 with ⟨rfl, rfl⟩ | ⟨h0, k, rfl, pv, sv, h1, h2, h3⟩
  · go_enter Try.func28, Try.ntmps28
    go_wp2_with fail
    refine bodyPost_ret (v := .slice none 0 0) (by simp [results, Try.results28, go_sem]) rfl ⟨_, rfl, by have := TL.nil w0; simpa [enc, form_zero] using this, ?_⟩
    exact (Below.refl _ _).alloc (Nat.le_refl _) _
  · obtain ⟨a, n, c, rfl⟩ := h3.slice
    have z := blk_alloc_old ((hb0.block k (lt_of_blk h1)).trans h1) (.cells #[.pointer (some ⟨k, 0, none⟩)] 50)
    have z1 : (w.alloc (.cells #[.pointer (some ⟨k, 0, none⟩)] 50)).cell? ⟨k, 1, none⟩ = some (.slice a n c) := (cell_of_blk z 1).trans rfl
    have H := Sealed.mk (And.intro h1 (And.intro h2 (And.intro h3 hb0))); clear h h1 h2 h3 z hb0
    go_enter Try.func28, Try.ntmps28
    go_wp2_with fail
    refine bodyPost_ret (v := .slice a n c) (by simp [results, Try.results28, go_sem]) rfl ⟨_, rfl, H.out.2.2.1, ?_⟩
    exact (Below.refl _ _).alloc (Nat.le_refl _) _

set_option maxRecDepth 100000 in
set_option maxHeartbeats 2000000 in
theorem parts_at {w0 w : World} {u : Value} {x : Int} (h : NumIs w0 u x) (hb0 : Below w0.heap.size w0 w) : Calls Try.prog 38 #[u] w fun e w' => ∃ v, e = .returned v ∧ PartsAt w0 v x ∧ Below w.heap.size w w' := by
  rcases h.2 with ⟨rfl, rfl⟩ | ⟨h0, k, rfl, pv, sv, h1, h2, h3⟩
  · go_enter Try.func38, Try.ntmps38
    go_wp2_with fail
    refine bodyPost_ret (v := .slice none 0 0) (by simp [results, Try.results38, go_sem]) rfl ⟨_, rfl, PartsAt.zero w0, ?_⟩
    exact (Below.refl _ _).alloc (Nat.le_refl _) _
  · have hsl : ∃ a n c, pv = .slice a n c := by
      obtain ⟨_, a, c, hh, _⟩ := h2
      exact ⟨a, _, c, hh⟩
    obtain ⟨a, n, c, rfl⟩ := hsl
    have z := blk_alloc_old ((hb0.block k (lt_of_blk h1)).trans h1) (.cells #[.pointer (some ⟨k, 0, none⟩)] 50)
    have z1 : (w.alloc (.cells #[.pointer (some ⟨k, 0, none⟩)] 50)).cell? ⟨k, 0, none⟩ = some (.slice a n c) := (cell_of_blk z 0).trans rfl
    have H := Sealed.mk (And.intro h1 (And.intro h2 (And.intro h3 hb0))); clear h h1 h2 h3 z hb0
    go_enter Try.func38, Try.ntmps38
    go_wp2_with fail
    refine bodyPost_ret (v := .slice a n c) (by simp [results, Try.results38, go_sem]) rfl ⟨_, rfl, H.out.2.1, ?_⟩
    exact (Below.refl _ _).alloc (Nat.le_refl _) _

theorem self_any {w : World} {u : Value} {x : Int} (h : NumIs w u x) : Calls Try.prog 28 #[u] w fun e w' => ∃ v, e = .returned v ∧ TL w v (enc (pvs x) x) ∧ Below w.heap.size w w' := self_at h (Below.refl _ _)
theorem parts_any {w : World} {u : Value} {x : Int} (h : NumIs w u x) : Calls Try.prog 38 #[u] w fun e w' => ∃ v, e = .returned v ∧ PartsAt w v x ∧ Below w.heap.size w w' := parts_at h (Below.refl _ _)

set_option maxRecDepth 100000 in
set_option maxHeartbeats 2000000 in
theorem Sign_any {w : World} {u : Value} {x : Int} (h : NumIs w u x) : Calls Try.prog 20 #[u] w fun e w' => e = .returned (.int .i64 (sg x)) ∧ Below w.heap.size w w' := by
  obtain ⟨p, hp⟩ : ∃ p, u = .agg #[.pointer p] := by
    rcases h.2 with ⟨_, h⟩ | ⟨_, k, h, _⟩
    · exact ⟨none, h⟩
    · exact ⟨_, h⟩
  subst hp
  have hs := self_any (h.below ((Below.refl _ _).alloc (Nat.le_refl _) (.cells #[.pointer p] 50)))
  have HS := Sealed.mk hs; clear hs
  go_enter Try.func20, Try.ntmps20
  go_wp2_with (first
    | (go_at_call 28; go_must (refine HS.out.mono ?_; rintro e w1 ⟨v, rfl, hl, hb⟩; have hsg := sign_any (hl.below hb); rw [sgnT_enc] at hsg; have HSG := Sealed.mk hsg; clear hsg hl; have HB := Sealed.mk hb; clear hb))
    | (go_at_call 27; go_must (refine HSG.out.mono ?_; rintro e w2 ⟨rfl, rfl⟩)))
  go_ret
  refine ⟨rfl, ?_⟩
  have b0 : Below w.heap.size w (w.alloc (.cells #[.pointer p] 50)) := (Below.refl _ _).alloc (Nat.le_refl _) _
  have hb := HB.out
  exact b0.trans ⟨hb.os, hb.tape, hb.output, hb.size, fun k hk => hb.block k (by have := b0.size; omega)⟩

end Go.Proofs.Ythmagdibjbadaaa

namespace Go.Proofs.Ythmagdibjbadaaa
open Go.RowKit Sr

theorem GP.inside {vs : List Int} {x0 : Int} {ps : List Nat} {hl : List (Int × Int)} (h : GP vs x0 true ps hl) {y : Int} (hy : ∀ e ∈ exps y, e ∈ ps) {f : Nat} (hf : Part f y) : f ∈ ps := by
  induction hf with
  | here he => exact hy _ he
  | deep he _ ih => exact ih fun g hg => h.closed rfl _ (hy _ he) g hg

theorem GP.mem {vs : List Int} {x0 : Int} {ps : List Nat} {hl : List (Int × Int)} (h : GP vs x0 true ps hl) (hx : ∀ e ∈ exps x0, e ∈ ps) (e : Nat) : e ∈ ps ↔ Part e x0 :=
  ⟨h.part e, h.inside hx⟩

theorem GP.count {vs : List Int} {x0 : Int} {ps : List Nat} {hl : List (Int × Int)} (h : GP vs x0 true ps hl) (hx : ∀ e ∈ exps x0, e ∈ ps) : ps.length = (plist x0).length :=
  Nat.le_antisymm h.length (nodup_sub_nat (plist_nodup x0) fun e he => (h.mem hx e).2 (mem_plist.1 he))

theorem GP.allowed {vs : List Int} {x0 : Int} {ps : List Nat} {hl : List (Int × Int)} (h : GP vs x0 true ps hl) (hx : ∀ e ∈ exps x0, e ∈ ps) (hlen : (form x0).length ≤ 300) : Allowed x0 ↔ ps.length + 1 ≤ 2000 ∧ height x0 ≤ 100 := by
  have hc := h.count hx
  constructor
  · rintro ⟨_, _, h3, h4⟩
    unfold weight at h3
    exact ⟨by omega, h4⟩
  · rintro ⟨h1, h2⟩
    exact ⟨hlen, fun e he => h.few rfl e ((h.mem hx e).2 he), by unfold weight; omega, h2⟩

/-- the test behind the walk -/
theorem GP.test {vs : List Int} {x0 : Int} {ok : Bool} {ps : List Nat} {hl : List (Int × Int)} {hh : Int} (h : GP vs x0 ok ps hl) (hx : ok = true → (∀ e ∈ exps x0, e ∈ ps) ∧ hh = (height x0 : Int)) (hlen : (form x0).length ≤ 300) :
    Allowed x0 ↔ ok = true ∧ ps.length + 1 ≤ 2000 ∧ hh ≤ 100 := by
  cases ok with
  | false => exact ⟨fun hA => absurd hA (h.bad rfl), fun hA => by simp at hA⟩
  | true =>
    obtain ⟨h1, h2⟩ := hx rfl
    rw [h.allowed h1 hlen, h2]
    simp only [true_and]
    omega

end Go.Proofs.Ythmagdibjbadaaa

namespace Go.Proofs.Ythmagdibjbadaaa
open Go.RowKit Sr

theorem under_length : ∀ (l : List T) (n : Nat), Under n l → l.length ≤ n
  | [], _, _ => Nat.zero_le _
  | t :: l, n, h => by
    obtain ⟨h1, h2, h3⟩ := h
    have := under_length l _ h2
    simp only [List.length_cons]
    by_cases hl : l = []
    · subst hl; simp; omega
    · have := h3 hl; omega

theorem Sr.Under.cut {n m : Nat} {l : List T} (h : Under n l) (hm : ∀ t ∈ l, t.2 < m) : Under m l := by
  cases l with
  | nil => trivial
  | cons t l => exact ⟨hm t (by simp), h.2⟩

/-- an exponent's power -/
theorem exps_pow {x : Int} {e : Nat} (h : e ∈ exps x) : (2 : Int) ^ (e + 1) + 1 ≤ 3 * (x.natAbs : Int) := by
  obtain ⟨t, ht, rfl⟩ := mem_exps.1 h
  obtain ⟨n, hu⟩ := form_form x
  have hv := val_form x
  cases hf : form x with
  | nil => rw [hf] at ht; simp at ht
  | cons s l =>
    rw [hf] at ht hu hv
    have hts : t.2 ≤ s.2 := by
      have := under_mem (s :: l) (s.2 + 1) ⟨by omega, hu.2⟩ t ht
      omega
    have hp := val_pos hu
    have hm := pow_mono (show t.2 + 1 ≤ s.2 + 1 by omega)
    rw [hv] at hp
    cases hs : s.1
    · have := hp.1 hs; omega
    · have := hp.2 hs; omega

theorem exps_small {x : Int} (hx : x.natAbs ≤ 2 ^ 63) {e : Nat} (h : e ∈ exps x) : e ≤ 63 := by
  have h1 := exps_pow h
  by_cases h2 : e ≤ 63
  · exact h2
  · have h3 := pow_mono (show 65 ≤ e + 1 by omega)
    have h4 : ((2 : Int) ^ 65) = 36893488147419103232 := by decide
    omega

theorem form_length_le {x : Int} {n : Nat} (h : ∀ e ∈ exps x, e < n) : (form x).length ≤ n := by
  obtain ⟨m, hu⟩ := form_form x
  exact under_length _ _ (hu.cut fun t ht => h t.2 (mem_exps.2 ⟨t, ht, rfl⟩))

theorem form_length_nat (e : Nat) : (form (e : Int)).length ≤ e := form_length_le fun f hf => by have := exps_lt hf; simpa using this

theorem part_small {x : Int} (hx : x.natAbs ≤ 2 ^ 63) {e : Nat} (h : Part e x) : e ≤ 63 := by
  rcases part_iff.1 h with ⟨f, hf, rfl | h⟩
  · exact exps_small hx hf
  · have := h.lt; have := exps_small hx hf; simp at *; omega

theorem plist_small {x : Int} (hx : x.natAbs ≤ 2 ^ 63) : (plist x).length ≤ 64 := by
  have := nodup_sub_nat (a := plist x) (b := List.range 64) (plist_nodup x) fun e he => by
    have := part_small hx (mem_plist.1 he)
    rw [List.mem_range]; omega
  simpa using this

theorem allowed_small {x : Int} (hx : x.natAbs ≤ 2 ^ 63) : Allowed x := by
  have h1 := plist_small hx
  refine ⟨?_, fun e he => ?_, ?_, ?_⟩
  · have := form_length_le (n := 64) fun e he => by have := exps_small hx he; omega
    omega
  · have := form_length_nat e
    have := part_small hx he
    omega
  · unfold weight; omega
  · have := height_plist _ (Nat.lt_succ_self x.natAbs)
    omega

/-- the numbers 0 to 70 -/
def few : List Int := (List.range 71).map fun n : Nat => (n : Int)
theorem few_mem (k : Nat) (h : k ≤ 70) : (k : Int) ∈ few := List.mem_map.2 ⟨k, List.mem_range.2 (by omega), rfl⟩
theorem few_length : few.length ≤ roomW := by simp [few, roomW]

end Go.Proofs.Ythmagdibjbadaaa

namespace Go.Proofs.Ythmagdibjbadaaa
open Go.RowKit Sr

def Is64 (x : Int) : Prop := -9223372036854775808 ≤ x ∧ x ≤ 9223372036854775807
instance (x : Int) : Decidable (Is64 x) := by unfold Is64; infer_instance

/-- what Int's table holds of an exponent -/
def val64 (x : Int) : Int := if Is64 x then x else 64

/-- the test at the i-th term of l, e what the table holds of its exponent -/
def out64 (l : List T) (i : Nat) (t : T) (e : Int) : Prop := 63 < e ∨ (i = 0 ∧ e = 63 ∧ 1 < l.length ∧ (l.getD 1 (false, 0)).1 = t.1) ∨ (e = 63 ∧ l.length = 1 ∧ t.1 = false)

theorem val64_nat {e : Nat} (h : e ≤ 63) : val64 (e : Int) = e := by
  have : Is64 (e : Int) := by unfold Is64; omega
  unfold val64; rw [if_pos this]
theorem val64_big {e : Nat} (h : 63 < e) : 63 < val64 (e : Int) := by unfold val64; split <;> omega

theorem pow63 : (2 : Int) ^ 63 = 9223372036854775808 := by decide
theorem pow64 : (2 : Int) ^ 64 = 18446744073709551616 := by decide
theorem pow65 : (2 : Int) ^ 65 = 36893488147419103232 := by decide

/-- a test that holds: it is no int64 -/
theorem out64_not {x : Int} {i : Nat} {t : T} (ht : (form x)[i]? = some t) (h : out64 (form x) i t (val64 (t.2 : Int))) : ¬ Is64 x := by
  intro h6
  have hx : x.natAbs ≤ 2 ^ 63 := by unfold Is64 at h6; omega
  have he := exps_small hx (mem_exps.2 ⟨t, List.mem_of_getElem? ht, rfl⟩)
  rw [val64_nat he] at h
  obtain ⟨n, hu⟩ := form_form x
  have hv := val_form x
  unfold Is64 at h6
  rcases h with h | ⟨rfl, h1, h2, h3⟩ | ⟨h1, h2, h3⟩
  · omega
  · have h1' : t.2 = 63 := by omega
    cases hf : form x with
    | nil => rw [hf] at h2; simp at h2
    | cons s l =>
      rw [hf] at ht hu hv h2 h3
      have hst : s = t := by simpa using ht
      subst hst
      cases l with
      | nil => simp at h2
      | cons r l =>
        have hr : r.1 = s.1 := by simpa using h3
        obtain ⟨u1, u2, u3⟩ := hu
        have hp := val_pos u2
        have hpp := two_pow_pos (r.2 + 1)
        have hval : val (s :: r :: l) = tv s + val (r :: l) := rfl
        rw [hval] at hv
        have htv : tv s = if s.1 then -9223372036854775808 else 9223372036854775808 := by unfold tv; rw [h1', pow63]
        cases hs : s.1
        · rw [hs] at hr htv
          simp at htv
          have := hp.1 hr
          omega
        · rw [hs] at hr htv
          simp at htv
          have := hp.2 hr
          omega
  · have h1' : t.2 = 63 := by omega
    cases hf : form x with
    | nil => rw [hf] at h2; simp at h2
    | cons s l =>
      rw [hf] at ht hv h2
      have hl : l = [] := by simpa using h2
      subst hl
      have hi : i = 0 := by have := (List.getElem?_eq_some_iff.1 ht).1; simp at this; omega
      subst hi
      have hst : s = t := by simpa using ht
      subst hst
      have htv : tv s = 9223372036854775808 := by unfold tv; rw [h1', pow63, h3]; simp
      simp [val, htv] at hv
      omega

/-- all tests fail: it is one -/
theorem out64_is {x : Int} (h : ∀ i t, (form x)[i]? = some t → ¬ out64 (form x) i t (val64 (t.2 : Int))) : Is64 x := by
  obtain ⟨n, hu⟩ := form_form x
  have hv := val_form x
  unfold Is64
  cases hf : form x with
  | nil => rw [hf] at hv; simp [val] at hv; omega
  | cons s l =>
    have h0 := h 0 s (by rw [hf]; rfl)
    rw [hf] at hu hv h0
    obtain ⟨u1, u2, u3⟩ := hu
    have he : s.2 ≤ 63 := by
      by_cases hb : s.2 ≤ 63
      · exact hb
      · exact absurd (.inl (val64_big (by omega))) h0
    rw [val64_nat he] at h0
    have hval : val (s :: l) = tv s + val l := rfl
    rw [hval] at hv
    cases l with
    | nil =>
      simp [val] at hv
      by_cases h63 : s.2 = 63
      · have hs : s.1 = true := by
          cases hs : s.1
          · exact absurd (.inr (.inr ⟨by omega, rfl, hs⟩)) h0
          · rfl
        unfold tv at hv
        rw [hs, h63, pow63] at hv
        simp at hv
        omega
      · have hm := pow_mono (show s.2 ≤ 62 by omega)
        have hp := two_pow_pos s.2
        have h62 : (2 : Int) ^ 62 = 4611686018427387904 := by decide
        unfold tv at hv
        split at hv <;> omega
    | cons r l =>
      have h1s := u3 (by simp)
      have hb := under_bound _ _ u2
      have e1 : s.2 - 1 + 1 = s.2 := by omega
      rw [e1] at hb
      have hp := two_pow_pos s.2
      by_cases h63 : s.2 = 63
      · have hne : r.1 ≠ s.1 := fun e => h0 (.inr (.inl ⟨rfl, by omega, by simp, by simpa using e⟩))
        have hpr := val_pos u2
        have hpp := two_pow_pos (r.2 + 1)
        rw [h63, pow63] at hb
        unfold tv at hv
        rw [h63, pow63] at hv
        cases hs : s.1
        · rw [hs] at hne hv
          simp at hv
          have := hpr.2 (by simpa using hne)
          omega
        · rw [hs] at hne hv
          simp at hv
          have := hpr.1 (by simpa using hne)
          omega
      · have hm := pow_mono (show s.2 ≤ 62 by omega)
        have h62 : (2 : Int) ^ 62 = 4611686018427387904 := by decide
        unfold tv at hv
        split at hv <;> omega

/-- the sum of the first terms -/
theorem val_take_snoc {l : List T} {k : Nat} {t : T} (h : l[k]? = some t) : val (l.take (k + 1)) = val (l.take k) + tv t := by
  rw [List.take_add_one, h, val_append]
  simp [val]

end Go.Proofs.Ythmagdibjbadaaa

namespace Go.Proofs.Ythmagdibjbadaaa
open Go.RowKit Sr

theorem wrap_add64 (a b : Int) : wrap64 (wrap64 a + wrap64 b) = wrap64 (a + b) := by unfold wrap64; omega
theorem wrap_sub64 (a b : Int) : wrap64 (wrap64 a - wrap64 b) = wrap64 (a + -b) := by unfold wrap64; omega

set_option maxRecDepth 100000 in
set_option maxHeartbeats 4000000 in
theorem intC_any {w : World} {vs : List Int} {y : Int} {v : Value} (hl : TL w v (enc vs y)) {bv vb np : Nat} (hbv : w.cell? ⟨bv, 0, none⟩ = some (.slice (some ⟨vb, 0, none⟩) np np))
    (hval : ∀ e ∈ exps y, vs.idxOf (e : Int) < np ∧ w.cell? ⟨vb, vs.idxOf (e : Int), none⟩ = some (.int .i64 (val64 (e : Int)))) :
    Calls Try.prog 39 #[v, .pointer (some ⟨bv, 0, none⟩)] w fun e w' => e = .returned (.tuple #[.int .i64 (val64 y), .bool (decide (Is64 y))]) ∧ Below w.heap.size w w' := by
  obtain ⟨a, n, c, rfl⟩ := hl.slice
  obtain ⟨hn, hn1, hnc, -⟩ := hl.cells
  have hnE : n = (form y).length := by rw [hn]; simp [enc]
  clear hn
  have HNE := Sealed.mk hnE; clear hnE
  have HL := Sealed.mk hl; clear hl
  have HV := Sealed.mk (And.intro hbv hval); clear hbv hval
  go_enter Try.func39, Try.ntmps39
  go_wp2_with fail
  go_loopg [5, 11] n (fun j sv iv W => ∃ k : Nat, j = n - k ∧ k ≤ n ∧ iv = .int .i64 (k : Int) ∧ sv = .int .i64 (wrap64 (val ((form y).take k))) ∧ Below w.heap.size w W ∧
    ∀ i t, i < k → (form y)[i]? = some t → ¬ out64 (form y) i t (val64 (t.2 : Int)))
  case atStart => exact ⟨0, rfl, Nat.zero_le _, rfl, by simp [val, wrap64], Below.refl _ _, fun i t h => by omega⟩
  case round =>
    obtain ⟨k, rfl, hk, rfl, rfl, hb, hno⟩ := hrel
    by_cases hkn : k < n
    · obtain ⟨⟨m, e⟩, ht⟩ : ∃ t, (form y)[k]? = some t := ⟨_, List.getElem?_eq_getElem (by have := HNE.out; omega)⟩
      have hey : e ∈ exps y := mem_exps.2 ⟨_, List.mem_of_getElem? ht, rfl⟩
      obtain ⟨hq1, hq2⟩ := HV.out.2 e hey
      obtain ⟨q, hq⟩ : ∃ q : Nat, q = vs.idxOf (e : Int) := ⟨_, rfl⟩
      rw [← hq] at hq1 hq2
      obtain ⟨ve, hve⟩ : ∃ ve, ve = val64 (e : Int) := ⟨_, rfl⟩
      rw [← hve] at hq2
      have hte : (enc vs y)[k]? = some (m, q) := by simp [enc, ht, hq]
      obtain ⟨-, -, -, hcell⟩ := (HL.out.below hb).cells
      obtain ⟨bb, oo, rfl, h1, h2⟩ := hcell k _ hte
      obtain ⟨m1, hm1⟩ : ∃ m1, m1 = ((form y).getD 1 (false, 0)).1 := ⟨_, rfl⟩
      have hm1c : 1 < n → wr.cell? ⟨bb, oo + 2, none⟩ = some (.bool m1) := fun h1n => by
        obtain ⟨t1, ht1⟩ : ∃ t, (form y)[1]? = some t := ⟨_, List.getElem?_eq_getElem (by have := HNE.out; omega)⟩
        have hte1 : (enc vs y)[1]? = some (t1.1, vs.idxOf (t1.2 : Int)) := by simp [enc, ht1]
        obtain ⟨b', o', hh, g1, -⟩ := hcell 1 _ hte1
        obtain ⟨rfl, rfl⟩ : bb = b' ∧ oo = o' := by
          have := Option.some.inj hh
          simp only [Addr.mk.injEq] at this
          exact ⟨this.1, this.2.1⟩
        rw [hm1, List.getD_eq_getElem?_getD, ht1]
        exact g1
      dsimp only at h1 h2
      obtain ⟨W1, hW1⟩ : ∃ W1, W1 = wr.alloc (.cells #[.bool m, .int .i64 (q : Int)] 82) := ⟨_, rfl⟩
      have hb1 : Below w.heap.size w W1 := by rw [hW1]; exact hb.alloc hb.size _
      have hx1 : Ext noB wr W1 := by rw [hW1]; exact (Ext.refl noB wr).alloc _
      have keep : ∀ {b i : Nat} {u : Value}, wr.cell? ⟨b, i, none⟩ = some u → W1.cell? ⟨b, i, none⟩ = some u := fun {b i u} h => (cell_same (hx1.block b (lt_of_cell h) fun e => e) i).trans h
      have kb : W1.heap[wr.heap.size]? = some (.cells #[.bool m, .int .i64 (q : Int)] 82 (0, 0)) := by rw [hW1]; exact blk_alloc _ _
      have k0 : W1.cell? ⟨wr.heap.size, 0, none⟩ = some (.bool m) := (cell_of_blk kb 0).trans rfl
      have k1 : W1.cell? ⟨wr.heap.size, 1, none⟩ = some (.int .i64 (q : Int)) := (cell_of_blk kb 1).trans rfl
      have v0 : W1.cell? ⟨bv, 0, none⟩ = some (.slice (some ⟨vb, 0, none⟩) np np) := keep ((cell_same (hb.block bv (lt_of_cell HV.out.1)) 0).trans HV.out.1)
      have v1 : W1.cell? ⟨vb, q, none⟩ = some (.int .i64 ve) := keep ((cell_same (hb.block vb (lt_of_cell hq2)) q).trans hq2)
      have hm1c' := fun h => keep (hm1c h)
      have HT := Sealed.mk (And.intro ht (And.intro hve hm1)); clear ht hve hm1 hte hey hq hq2
      have HB := Sealed.mk (And.intro hb (And.intro hb1 hno)); clear hb hb1 hno hcell hm1c kb
      have HM1 := Sealed.mk hm1c'; clear hm1c'
      clear keep hx1
      go_upto_region 5 with fail
      rw [← hW1]
      have HW1 := Sealed.mk hW1; clear hW1
      go_upto_region 6 with fail
      go_cut [58] (fun v58 wx => (∃ nq, wx = W1.drewN nq) ∧ v58 = .bool (decide (63 < ve ∨ (k = 0 ∧ ve = 63 ∧ 1 < n ∧ m1 = m) ∨ (ve = 63 ∧ n = 1 ∧ m = false))))
      case first =>
        by_cases c1 : 63 < ve
        · have d1 : decide (63 < ve) = true := by simp [c1]
          have C := Sealed.mk c1; clear c1
          go_quiet (fail)
          go_wp2_with fail
          go_meet
          case rel => exact ⟨⟨nq, rfl⟩, by simp [C.out]⟩
        · have d1 : decide (63 < ve) = false := by simp [c1]
          by_cases c2 : ve = 63
          · have d2 : (ve == 63) = true := by simp [c2]
            by_cases c3 : 1 < n
            · have d3 : decide ((1 : Int) < (n : Int)) = true := by simp; omega
              have d3' : ((n : Int) == 1) = false := by simp; omega
              have d3n : (1 : Int) < (n : Int) := by omega
              have hm1f := HM1.out c3
              by_cases c4 : k = 0
              · have d4 : ((k : Int) == 0) = true := by simp [c4]
                have C := Sealed.mk (And.intro c1 (And.intro c2 (And.intro c3 c4))); clear c1 c2 c3 c4
                cases m <;> cases m1 <;>
                  (go_quiet (fail)
                   go_wp2_with fail
                   go_meet
                   exact ⟨⟨nq, rfl⟩, by simp [C.out.1, C.out.2.1, C.out.2.2.1, C.out.2.2.2]; try omega⟩)
              · have d4 : ((k : Int) == 0) = false := by simp; omega
                have C := Sealed.mk (And.intro c1 (And.intro c2 (And.intro c3 c4))); clear c1 c2 c3 c4
                go_quiet (fail)
                go_wp2_with fail
                go_meet
                case rel => exact ⟨⟨nq, rfl⟩, by have h3 := C.out.2.2.1; have h4 := C.out.2.2.2; have h1 := C.out.1; have h5 : ¬ n = 1 := (by omega); simp [h1, h4, h5]⟩
            · have d3 : decide ((1 : Int) < (n : Int)) = false := by simp; omega
              have d3' : ((n : Int) == 1) = true := by simp; omega
              have d4 : ((k : Int) == 0) = true := by simp; omega
              have C := Sealed.mk (And.intro c1 (And.intro c2 c3)); clear c1 c2 c3
              cases m <;>
                (go_quiet (fail)
                 go_wp2_with fail
                 go_meet
                 exact ⟨⟨nq, rfl⟩, by have h1 := C.out.1; have h2 := C.out.2.1; have h3 := C.out.2.2; have h5 : n = 1 := (by omega); simp [h2, h5]⟩)
          · have d2 : (ve == 63) = false := by simp [c2]
            by_cases c4 : k = 0
            · have d4 : ((k : Int) == 0) = true := by simp [c4]
              have C := Sealed.mk (And.intro c1 c2); clear c1 c2 c4
              go_quiet (fail)
              go_wp2_with fail
              go_meet
              case rel => exact ⟨⟨nq, rfl⟩, by simp [C.out.1, C.out.2]⟩
            · have d4 : ((k : Int) == 0) = false := by simp; omega
              have C := Sealed.mk (And.intro c1 c2); clear c1 c2 c4
              go_quiet (fail)
              go_wp2_with fail
              go_meet
              case rel => exact ⟨⟨nq, rfl⟩, by simp [C.out.1, C.out.2]⟩
      case rest =>
        obtain ⟨⟨nq, rfl⟩, rfl⟩ := hcut
        obtain ⟨W2, hW2⟩ : ∃ W2, W2 = W1.drewN nq := ⟨_, rfl⟩
        have hb2 : Below w.heap.size w W2 := by rw [hW2]; exact ⟨HB.out.2.1.os, HB.out.2.1.tape, HB.out.2.1.output, HB.out.2.1.size, HB.out.2.1.block⟩
        have k0' : W2.cell? ⟨wr.heap.size, 0, none⟩ = some (.bool m) := by rw [hW2]; exact k0
        rw [← hW2]
        clear hW2 k0 k1 v0 v1
        have HB2 := Sealed.mk hb2; clear hb2
        obtain ⟨ht, hve, hm1⟩ := HT.out
        have hout : (63 < ve ∨ (k = 0 ∧ ve = 63 ∧ 1 < n ∧ m1 = m) ∨ (ve = 63 ∧ n = 1 ∧ m = false)) ↔ out64 (form y) k (m, e) ve := by
          unfold out64
          rw [← hm1, ← HNE.out]
        by_cases ho : (63 < ve ∨ (k = 0 ∧ ve = 63 ∧ 1 < n ∧ m1 = m) ∨ (ve = 63 ∧ n = 1 ∧ m = false))
        · have hd : decide (63 < ve ∨ (k = 0 ∧ ve = 63 ∧ 1 < n ∧ m1 = m) ∨ (ve = 63 ∧ n = 1 ∧ m = false)) = true := by simp [ho]
          have hnot : ¬ Is64 y := out64_not ht (by rw [← hve]; exact hout.1 ho)
          have HN := Sealed.mk hnot; clear hnot
          rw [hd]
          clear hd ho hout ht hve hm1 h1 h2
          go_wp2_with fail
          refine bodyPost_ret (v := .tuple #[.int .i64 64, .bool false]) (by simp [results, Try.results39, go_sem]) rfl ⟨?_, HB2.out⟩
          have hv : val64 y = 64 := by unfold val64; rw [if_neg HN.out]
          rw [hv, decide_eq_false HN.out]
        · have hd : decide (63 < ve ∨ (k = 0 ∧ ve = 63 ∧ 1 < n ∧ m1 = m) ∨ (ve = 63 ∧ n = 1 ∧ m = false)) = false := by simp only [ho, decide_false]
          have hnot : ¬ out64 (form y) k (m, e) (val64 (e : Int)) := by rw [← hve]; exact fun h => ho (hout.2 h)
          have hve63 : ve ≤ 63 := by
            rcases Int.lt_or_le 63 ve with h | h
            · exact absurd (.inl h) ho
            · exact h
          have hee : ve = (e : Int) := by
            by_cases he : e ≤ 63
            · rw [hve]; exact val64_nat he
            · have := val64_big (e := e) (by omega)
              omega
          have hno' : ∀ i t, i < k + 1 → (form y)[i]? = some t → ¬ out64 (form y) i t (val64 (t.2 : Int)) := fun i t hi hit => by
            by_cases hik : i < k
            · exact HB.out.2.2 i t hik hit
            · have : i = k := by omega
              subst this
              rw [ht] at hit
              obtain rfl := Option.some.inj hit
              exact hnot
          have hsnoc := val_take_snoc ht
          have HS := Sealed.mk (And.intro hno' hsnoc); clear hno' hsnoc
          rw [hd]
          have he63 : e ≤ 63 := by omega
          subst hee
          have HE := Sealed.mk he63
          clear hd ho hout ht hve hm1 h1 h2 hnot hve63
          have hsl : (0 : Int) ≤ (e : Int) := by omega
          cases m
          · go_wp2_with fail
            go_roundg (n - (k + 1))
            case measure => omega
            case rel => exact ⟨k + 1, rfl, by omega, by push_cast; rfl, by rw [HS.out.2, wrap_add64]; rfl, HB2.out, HS.out.1⟩
          · go_wp2_with fail
            go_roundg (n - (k + 1))
            case measure => omega
            case rel => exact ⟨k + 1, rfl, by omega, by push_cast; rfl, by rw [HS.out.2, wrap_sub64]; rfl, HB2.out, HS.out.1⟩
    · have hkk : k = n := by omega
      subst hkk
      have hi : Is64 y := out64_is fun i t hit => hno i t (by rw [HNE.out]; exact (List.getElem?_eq_some_iff.1 hit).1) hit
      have HR := Sealed.mk (And.intro hi hb); clear hi hb hno
      have hkf : (form y).take k = form y := by rw [HNE.out, List.take_length]
      rw [hkf, val_form]
      have hwy : wrap64 y = y := by have := HR.out.1; unfold Is64 at this; unfold wrap64; omega
      rw [hwy]
      clear hwy hkf
      go_wp2_with fail
      refine bodyPost_ret (v := .tuple #[.int .i64 y, .bool true]) (by simp [results, Try.results39, go_sem]) rfl ⟨?_, HR.out.2⟩
      have hv : val64 y = y := by unfold val64; rw [if_pos HR.out.1]
      rw [hv, decide_eq_true HR.out.1]

end Go.Proofs.Ythmagdibjbadaaa

namespace Go.Proofs.Ythmagdibjbadaaa
open Go.RowKit Sr

/-- the table holds of each of these its place among them -/
structure Tab (vs : List Int) (l : List Nat) (tl : List (Int × Int)) : Prop where
  apart : KeysApart tl
  look : ∀ e : Nat, (e : Int) ∈ vs → lookK tl (vs.idxOf (e : Int) : Nat) = if e ∈ l then some (l.idxOf e : Int) else none

theorem Tab.nil (vs : List Int) : Tab vs [] [] := ⟨List.Pairwise.nil, by simp [lookK]⟩

theorem Tab.push {vs : List Int} {l : List Nat} {tl : List (Int × Int)} (h : Tab vs l tl) {e : Nat} (he : (e : Int) ∈ vs) (hn : e ∉ l) : Tab vs (l ++ [e]) (putK tl (vs.idxOf (e : Int) : Nat) (l.length : Int)) where
  apart := h.apart.put _ _
  look := fun f hf => by
    rw [lookK_putK]
    by_cases hfe : f = e
    · subst hfe
      simp [List.idxOf_append, hn]
    · have : ¬ ((vs.idxOf (f : Int) : Nat) : Int) = (vs.idxOf (e : Int) : Nat) := fun q => hfe (by have := idxOf_inj hf (Int.ofNat_inj.1 q); omega)
      rw [if_neg this, h.look f hf]
      by_cases hl : f ∈ l
      · simp [hl, List.idxOf_append]
      · simp [hl, hfe]

/-- the place of a part among the parts -/
theorem pvs_idxOf (x : Int) (e : Nat) : (pvs x).idxOf (e : Int) = (plist x).idxOf e := by
  unfold pvs
  induction plist x with
  | nil => rfl
  | cons f l ih =>
    simp only [List.map_cons, List.idxOf_cons, ih]
    by_cases h : f = e
    · subst h; simp
    · have h1 : ((f : Int) == (e : Int)) = false := by simp; omega
      have h2 : (f == e) = false := by simp [h]
      rw [h1, h2]

end Go.Proofs.Ythmagdibjbadaaa

namespace Go.Proofs.Ythmagdibjbadaaa
open Go.RowKit Sr

/-- the parts' places, sorted by what they hold, are the places of the parts in order -/
theorem sorted_parts {vs : List Int} {x : Int} {ps ys : List Nat} (hv : ∀ e ∈ ps, (e : Int) ∈ vs) (hm : ∀ e, e ∈ ps ↔ Part e x) (hp : ys.Perm (ps.map fun e : Nat => vs.idxOf (e : Int))) (hr : Rising vs ys) :
    ys = (plist x).map fun e : Nat => vs.idxOf (e : Int) := by
  have hval : ∀ i ∈ ys, ∃ e ∈ ps, vs.idxOf (e : Int) = i := fun i hi => by
    have := hp.mem_iff.1 hi
    obtain ⟨e, he, rfl⟩ := List.mem_map.1 this
    exact ⟨e, he, rfl⟩
  have hget : ∀ i ∈ ys, ((vs.getD i 0).toNat : Int) ∈ vs ∧ vs.idxOf ((vs.getD i 0).toNat : Int) = i ∧ (vs.getD i 0).toNat ∈ ps := fun i hi => by
    obtain ⟨e, he, rfl⟩ := hval i hi
    have h1 := idxOf_get (hv e he)
    have h2 : vs.getD (vs.idxOf (e : Int)) 0 = (e : Int) := by rw [List.getD_eq_getElem?_getD, h1]; rfl
    rw [h2, Int.toNat_natCast]
    exact ⟨hv e he, rfl, he⟩
  have hes : plist x = ys.map fun i => (vs.getD i 0).toNat := by
    refine plist_of ?_ ?_
    · rw [List.pairwise_map]
      refine List.Pairwise.imp_of_mem ?_ hr
      intro i j hi hj h
      obtain ⟨i1, i2, _⟩ := hget i hi
      obtain ⟨j1, j2, _⟩ := hget j hj
      have e1 := idxOf_get i1
      have e2 := idxOf_get j1
      rw [i2] at e1
      rw [j2] at e2
      have := h _ _ e1 e2
      omega
    · intro e
      rw [← hm e]
      simp only [List.mem_map]
      constructor
      · rintro ⟨i, hi, rfl⟩
        exact (hget i hi).2.2
      · intro he
        refine ⟨vs.idxOf (e : Int), hp.mem_iff.2 (List.mem_map.2 ⟨e, he, rfl⟩), ?_⟩
        rw [List.getD_eq_getElem?_getD, idxOf_get (hv e he)]
        simp
  rw [hes, List.map_map]
  symm
  calc ys.map _ = ys.map id := List.map_congr_left fun i hi => (hget i hi).2.1
    _ = ys := List.map_id ys

end Go.Proofs.Ythmagdibjbadaaa

namespace Go.Proofs.Ythmagdibjbadaaa
open Go.RowKit Sr

theorem idxOf_take {l : List Nat} {g k : Nat} (h : g ∈ l.take k) : (l.take k).idxOf g = l.idxOf g := by
  conv => rhs; rw [← List.take_append_drop k l]
  rw [List.idxOf_append, if_pos h]

/-- parts of a part stand ahead of it -/
theorem part_ahead {x : Int} {k e : Nat} (he : (plist x)[k]? = some e) {g : Nat} (hg : g ∈ exps (e : Int)) : g ∈ (plist x).take k := by
  have hep : Part e x := mem_plist.1 (List.mem_of_getElem? he)
  have hgp : g ∈ plist x := mem_plist.2 (hep.up hg)
  have hlt : g < e := by have := exps_lt hg; simpa using this
  obtain ⟨j, hj⟩ := List.getElem?_of_mem hgp
  obtain ⟨hjl, hj'⟩ := List.getElem?_eq_some_iff.1 hj
  obtain ⟨hkl, hk'⟩ := List.getElem?_eq_some_iff.1 he
  have hup := List.pairwise_iff_getElem.1 (plist_up x)
  have hjk : j < k := by
    rcases Nat.lt_trichotomy j k with h | h | h
    · exact h
    · subst h; omega
    · have := hup k j hkl hjl h; omega
  rw [List.mem_take_iff_getElem]
  exact ⟨j, by omega, hj'⟩

/-- the place among the parts of what stands at a place of the world -/
noncomputable def anew (vs : List Int) (x : Int) (i : Nat) : Nat := (pvs x).idxOf (vs.getD i 0)

theorem anew_idx {vs : List Int} {x : Int} {e : Nat} (h : (e : Int) ∈ vs) : anew vs x (vs.idxOf (e : Int)) = (pvs x).idxOf (e : Int) := by
  unfold anew
  rw [List.getD_eq_getElem?_getD, idxOf_get h]; rfl

/-- what the table answers for the terms of a part, or of the number itself -/
theorem Tab.ask {vs : List Int} {x y : Int} {k : Nat} {tl : List (Int × Int)} (h : Tab vs ((plist x).take k) tl) (hc : Cov vs y) (hy : ∀ g ∈ exps y, g ∈ (plist x).take k) : ∀ t ∈ enc vs y, lookK tl (t.2 : Int) = some (anew vs x t.2 : Int) := by
  intro t ht
  obtain ⟨s, hs, rfl⟩ := List.mem_map.1 ht
  have hv : (s.2 : Int) ∈ vs := hc s hs
  have hm := hy s.2 (mem_exps.2 ⟨s, hs, rfl⟩)
  simp only
  rw [h.look s.2 hv, if_pos hm, anew_idx hv, pvs_idxOf, idxOf_take hm]

theorem enc_anew {vs : List Int} {x y : Int} (hy : Cov (pvs x) y) (hp : ∀ e : Nat, Part e x → (e : Int) ∈ vs) : (enc vs y).map (fun t => (t.1, anew vs x t.2)) = enc (pvs x) y :=
  enc_replace hy fun e he => anew_idx (hp e he)

/-- the number in the making: the table has kt of the parts, the number kn of them -/
structure PL (W4 W : World) (vs : List Int) (x : Int) (m nb kt kn : Nat) : Prop where
  ext : Ext (fun q => q = m ∨ q = nb) W4 W
  tab : ∃ tl, MapIs (fun n : Int => Value.int .i64 n) W m tl ∧ Tab vs ((plist x).take kt) tl
  num : ∃ pv us, W.heap[nb]? = some (.cells #[pv, .slice none 0 0] 86 (0, 0)) ∧ W.ownsRow W4.heap.size 67 1 pv kn us ∧ us.length = kn ∧
    ∀ (i e : Nat) (u : Value), us[i]? = some u → (plist x)[i]? = some e → TL W u (enc (pvs x) (e : Int)) ∧ ∀ q, u.ownBlock = some q → W4.heap.size ≤ q ∧ pv.ownBlock ≠ some q

variable {W4 W W' : World} {vs : List Int} {x : Int} {m nb kt kn : Nat}

/-- the table is given one more -/
theorem PL.table (h : PL W4 W vs x m nb kt kn) (hm : m < W4.heap.size) (hn : nb < W4.heap.size) (hne : m ≠ nb) (hgr : W.grownBy W' (some m)) {tl : List (Int × Int)} (hmi : MapIs (fun n : Int => Value.int .i64 n) W' m tl) (ht : Tab vs ((plist x).take (kt + 1)) tl) : PL W4 W' vs x m nb (kt + 1) kn where
  ext := h.ext.grown hgr fun k hk => .inl (.inl (Option.some.inj hk).symm)
  tab := ⟨tl, hmi, ht⟩
  num := by
    obtain ⟨pv, us, h1, h2, h3, h4⟩ := h.num
    have hx : Ext (fun q => q = m) W W' := (Ext.refl _ W).grown hgr fun k hk => .inl (Option.some.inj hk).symm
    refine ⟨pv, us, hx.get h1 (fun e => hne e.symm), own_ext h2 hx fun k hk e => by have := (h2.lt k hk).1; omega, h3, fun i e u hu he => ?_⟩
    obtain ⟨a1, a2⟩ := h4 i e u hu he
    exact ⟨a1.ext hx fun q hq e => by have := (a2 q hq).1; omega, a2⟩

/-- all is as it was, but for new memory -/
theorem PL.keep (h : PL W4 W vs x m nb kt kn) (hx : Ext noB W W') : PL W4 W' vs x m nb kt kn where
  ext := h.ext.trans hx fun _ hb => hb.elim
  tab := by
    obtain ⟨tl, h1, h2⟩ := h.tab
    exact ⟨tl, h1.same (hx.block _ h1.lt fun e => e), h2⟩
  num := by
    obtain ⟨pv, us, h1, h2, h3, h4⟩ := h.num
    refine ⟨pv, us, hx.get h1 (fun e => e), own_ext h2 hx fun k hk e => e, h3, fun i e u hu he => ?_⟩
    obtain ⟨a1, a2⟩ := h4 i e u hu he
    exact ⟨a1.ext hx fun q hq e => e, a2⟩

/-- one more part is appended and stored -/
theorem PL.push {W5 W6 : World} (h : PL W4 W vs x m nb kt kn) (hm : m < W4.heap.size) (hn : nb < W4.heap.size) (hne : m ≠ nb) {pv pv' u : Value} {us : List Value} (h1 : W.heap[nb]? = some (.cells #[pv, .slice none 0 0] 86 (0, 0)))
    (h2 : W.ownsRow W4.heap.size 67 1 pv kn us) (h3 : us.length = kn) (h4 : ∀ (i e : Nat) (u : Value), us[i]? = some u → (plist x)[i]? = some e → TL W u (enc (pvs x) (e : Int)) ∧ ∀ q, u.ownBlock = some q → W4.heap.size ≤ q ∧ pv.ownBlock ≠ some q)
    (hx : Ext noB W W5) {e : Nat} (he : (plist x)[kn]? = some e) (hu : TL W5 u (enc (pvs x) (e : Int))) (hub : ∀ q, u.ownBlock = some q → W.heap.size ≤ q)
    (hgr : W5.grownBy W6 pv.ownBlock) (hnew : NewOr W5 pv pv') (hown : W6.ownsRow W4.heap.size 67 1 pv' (kn + 1) (us ++ [u])) : PL W4 (W6.setCell ⟨nb, 0, none⟩ pv') vs x m nb kt (kn + 1) := by
  have hx5 : Ext (fun q => pv.ownBlock = some q) W5 W6 := ⟨hgr.os, hgr.tape, hgr.output, hgr.size, fun q hq hn => hgr.block q hq fun e => hn e.symm⟩
  have hx6 : Ext (fun q => q = nb) W6 (W6.setCell ⟨nb, 0, none⟩ pv') := (Ext.refl (fun q => q = nb) W6).setCell (p := ⟨nb, 0, none⟩) (.inl rfl) _
  have hpvlow : ∀ q, pv.ownBlock = some q → W4.heap.size ≤ q ∧ q < W.heap.size := fun q hq => h2.lt q hq
  have hpv'low : ∀ q, pv'.ownBlock = some q → W4.heap.size ≤ q := fun q hq => (hown.lt q hq).1
  have s45 : W4.heap.size ≤ W.heap.size := h.ext.size
  refine ⟨((h.ext.trans hx fun _ hb => hb.elim).trans hx5 fun q hq => .inr (hpvlow q hq).1).trans hx6 fun q hq => .inl (.inr hq), ?_, ?_⟩
  · obtain ⟨tl, t1, t2⟩ := h.tab
    refine ⟨tl, t1.same ?_, t2⟩
    have b1 := hx.block m t1.lt fun e => e
    have hm5 : m < W5.heap.size := Nat.lt_of_lt_of_le t1.lt hx.size
    have b2 := hx5.block m hm5 fun e => by have := (hpvlow _ e).1; omega
    exact (hx6.block m (Nat.lt_of_lt_of_le hm5 hx5.size) hne).trans (b2.trans b1)
  · have g1 : W6.heap[nb]? = some (.cells #[pv, .slice none 0 0] 86 (0, 0)) :=
      (hx5.block nb (Nat.lt_of_lt_of_le (lt_of_blk h1) hx.size) fun e => by have := (hpvlow _ e).1; omega).trans (hx.get h1 fun e => e)
    refine ⟨pv', us ++ [u], by rw [blk_setCell g1]; simp, own_ext hown hx6 fun k hk e => by have := hpv'low k hk; omega, by simp [h3], fun i e' u' hu' he' => ?_⟩
    have hpvnew : ∀ q, q < W5.heap.size → pv.ownBlock ≠ some q → pv'.ownBlock ≠ some q := fun q hq h0 => by
      rcases hnew with e | ⟨q', e, hq'⟩
      · rw [e]; exact h0
      · rw [e]; intro e2; have := Option.some.inj e2; omega
    by_cases hi : i < kn
    · rw [List.getElem?_append_left (by omega)] at hu'
      obtain ⟨a1, a2⟩ := h4 i e' u' hu' he'
      refine ⟨((a1.ext hx fun q _ e => e).ext hx5 fun q hq e => (a2 q hq).2 e).ext hx6 fun q hq e => by have := (a2 q hq).1; omega, fun q hq => ⟨(a2 q hq).1, hpvnew q ?_ (a2 q hq).2⟩⟩
      exact Nat.lt_of_lt_of_le (a1.lt q hq) hx.size
    · have hi' : i = kn := by
        have := (List.getElem?_eq_some_iff.1 hu').1
        simp [h3] at this
        omega
      subst hi'
      rw [he] at he'
      obtain rfl := Option.some.inj he'
      rw [List.getElem?_append_right (by omega), h3] at hu'
      simp at hu'
      subst hu'
      have hq1 : ∀ q, u.ownBlock = some q → pv.ownBlock ≠ some q := fun q hq e => by have := hub q hq; have := (hpvlow q e).2; omega
      refine ⟨(hu.ext hx5 fun q hq e => hq1 q hq e).ext hx6 fun q hq e => by have := hub q hq; omega, fun q hq => ⟨by have := hub q hq; omega, hpvnew q (hu.lt q hq) (hq1 q hq)⟩⟩

/-- the number is done -/
theorem PL.done {W7 : World} (h : PL W4 W vs x m nb kt (plist x).length) {sv : Value} (hx : Ext noB W W') (hsv : TL W' sv (enc (pvs x) x)) (hn : nb < W4.heap.size) (hsn : ∀ q, sv.ownBlock = some q → W4.heap.size ≤ q)
    (hy : Ext (fun q => q < W4.heap.size ∧ q ≠ nb) (W'.setCell ⟨nb, 1, none⟩ sv) W7) : NumBlk W7 nb x := by
  obtain ⟨pv, us, h1, h2, h3, h4⟩ := h.num
  have h1' := hx.get h1 fun e => e
  have h2' := own_ext h2 hx fun _ _ e => e
  have hx6 : Ext (fun q => q = nb) W' (W'.setCell ⟨nb, 1, none⟩ sv) := (Ext.refl (fun q => q = nb) W').setCell (p := ⟨nb, 1, none⟩) (.inl rfl) _
  have h2'' := own_ext (own_ext h2' hx6 fun k hk e => by have := (h2.lt k hk).1; omega) hy fun k hk e => by have := (h2.lt k hk).1; omega
  refine ⟨pv, sv, hy.get (by rw [blk_setCell h1']; simp) (fun e => e.2 rfl), ?_, (hsv.ext hx6 fun q hq e => by have := hsn q hq; omega).ext hy fun q hq e => by have := hsn q hq; omega⟩
  obtain ⟨a, c, rfl⟩ := own_slice h2''
  refine ⟨fun b hb => (h2''.lt b hb).2, a, c, rfl, ?_, fun hne => ?_⟩
  · rcases h2''.2 with ⟨e, e0⟩ | ⟨g, cap, cur, e, _, _, hn', _⟩
    · rw [e0]; omega
    · obtain ⟨_, _, rfl⟩ := Value.slice.inj e; exact hn'
  · obtain ⟨g, cap, e1⟩ := own_form h2'' (by have := List.length_pos_iff.2 hne; omega)
    obtain ⟨rfl, _, rfl⟩ := Value.slice.inj e1
    refine ⟨g, 0, rfl, fun i e he => ?_⟩
    have hi : i < us.length := by rw [h3]; exact (List.getElem?_eq_some_iff.1 he).1
    have hu : us[i]? = some us[i] := List.getElem?_eq_getElem hi
    obtain ⟨a1, a2⟩ := h4 i e _ hu he
    refine ⟨us[i], ?_, ((a1.ext hx fun q _ e => e).ext hx6 fun q hq e => by have := (a2 q hq).1; omega).ext hy fun q hq e => by have := (a2 q hq).1; omega⟩
    rw [Nat.zero_add]
    exact own_cell h2'' rfl hu

/-- append at a step of a region that draws: the literal has just been laid -/
theorem step_ap_lit {P : Program} {ops : Array Oper} {o : Oper} {a : Act} {K : Act → World → Prop} {Q : Exit → Act → World → Prop} {X : Prop} {t e size bytes : Nat} {z : Value} (E : ElemT P t e size z bytes) {W : World} {B n b : Nat} {v u : Value} {xs : List Value} (s x : Operand) (hgd : o.guard = none)
    (ho : o.op = .call { callee := .builtin .append, args := #[s, x], argTypes := #[t, t] }) (hs : a.eval s = v) (hown : W.ownsRow B e size v n xs)
    (hx : a.eval x = .slice (some ⟨b, 0, none⟩) 1 1) (hb : b = W.heap.size) (h1 : u.oneCell' = true) (hs1 : size = 1)
    (hn : n + 1 ≤ 1000000000) (hB : B ≤ W.heap.size)
    (h : ∀ g cap w', w'.ownsRow B e size (.slice (some ⟨g, 0, none⟩) (n + 1) cap) (n + 1) (xs ++ [u]) → (W.alloc (.cells #[u] e)).grownBy w' v.ownBlock → NewOr (W.alloc (.cells #[u] e)) v (.slice (some ⟨g, 0, none⟩) (n + 1) cap) → K (a.put o.dst (.slice (some ⟨g, 0, none⟩) (n + 1) cap)) w') :
    if Region.wanted o (yielded ops a.tmps) = true then Oper.wp P o a (W.alloc (.cells #[u] e)) K Q else X := by
  subst hb
  subst hs1
  obtain ⟨i0, hi, hzz⟩ := Option.map_eq_some_iff.1 E.info
  simp only [Prod.mk.injEq] at hzz
  obtain ⟨hz0, hz1, hz2⟩ := hzz
  have hsm := E.small
  have hmul : (n + 1) * bytes ≤ 1000000000 * 64 := Nat.mul_le_mul hn E.small
  refine step_append_lies _ hgd s x t ho B e i0 z 1 bytes E.ht hi hz0 hz1 hz2 E.hz E.pos v n xs hs (hown.alloc _) ⟨W.heap.size, 0, none⟩ 1 1 [u] hx (by simp) (fun j u' hu => ?_) (by simpa using h1) (by omega) (by unfold maxLen; omega) (by omega) (by simp; omega) _ rfl fun g cap w' q1 q2 q3 q4 => h g cap w' q1 q2 ?_
  · cases j with
    | zero =>
      simp at hu
      subst hu
      have : (⟨W.heap.size, 0, none⟩ : Addr).add 0 = ⟨W.heap.size, 0, none⟩ := by unfold Addr.add; split <;> simp_all
      rw [this, cell_of_blk (blk_alloc W _)]
      rfl
    | succ j => simp at hu
  · rcases q3 with q3 | q3
    · exact .inl (by rw [q3]; rfl)
    · exact .inr ⟨g, rfl, by rw [q3]; exact Nat.le_refl _⟩

end Go.Proofs.Ythmagdibjbadaaa
