/-
  Load: what its loops hold
  bytes.Equal
-/
import Derived.Test.YtgchfbfgjanaiaaJ31
import Derived.Deep.DeepCutAuto
set_option linter.unusedSimpArgs false
set_option linter.unusedVariables false
namespace Go.Proofs.Ytgchfbfgjanaiaa
open Go.RowKit Sr
structure BytesAt (w : World) (v : Value) (l : List Int) : Prop where
  range : ∀ x ∈ l, 0 ≤ x ∧ x < 256
  len : l.length ≤ 1000000000
  at_ : ∃ a c, v = .slice a l.length c ∧ l.length ≤ c ∧ (a ≠ none → ∃ b o, a = some ⟨b, o, none⟩ ∧ b < w.heap.size) ∧ (l ≠ [] → ∃ b o, a = some ⟨b, o, none⟩ ∧ b < w.heap.size ∧ TyBlk w b 5 ∧ ∀ (i : Nat) (x : Int), l[i]? = some x → w.cell? ⟨b, o + i, none⟩ = some (.int .u8 x))
theorem BytesAt.below {w w1 : World} {v : Value} {l : List Int} (h : BytesAt w v l) (e : Below w.heap.size w w1) : BytesAt w1 v l := by
  obtain ⟨a, c, h1, h2, h3, h4⟩ := h.at_
  refine ⟨h.range, h.len, a, c, h1, h2, fun hn => ?_, fun hl => ?_⟩
  · obtain ⟨b, o, q1, q2⟩ := h3 hn
    exact ⟨b, o, q1, Nat.lt_of_lt_of_le q2 e.size⟩
  · obtain ⟨b, o, q1, q2, q3, q4⟩ := h4 hl
    exact ⟨b, o, q1, Nat.lt_of_lt_of_le q2 e.size, q3.same (e.block b q2), fun i x hx => (cell_same (e.block b q2) _).trans (q4 i x hx)⟩
theorem BytesAt.of_own {w : World} {B : Nat} {v : Value} {l : List Int} (h : w.ownsRow B 5 1 v l.length (u8s l)) (hr : ∀ x ∈ l, 0 ≤ x ∧ x < 256) (hl : l.length ≤ 1000000000) : BytesAt w v l := by
  refine ⟨hr, hl, ?_⟩
  rcases h.2 with ⟨rfl, h0⟩ | ⟨g, cap, cur, rfl, hb, hg, hn, hc, hs, ht⟩
  · exact ⟨none, 0, by rw [h0], by omega, fun h => absurd rfl h, fun hne => absurd (List.eq_nil_of_length_eq_zero h0) hne⟩
  · refine ⟨_, cap, rfl, hn, fun _ => ⟨g, 0, rfl, lt_of_blk hg⟩, fun _ => ⟨g, 0, rfl, lt_of_blk hg, ⟨_, _, hg⟩, fun i x hx => ?_⟩⟩
    rw [Nat.zero_add]
    exact own_cell h rfl (by unfold u8s; rw [List.getElem?_map, hx]; rfl)
def LoadOut (w : World) (l0 : List Int) (e : Ending) (w' : World) : Prop :=
  ∃ p er, e = .returned (.tuple #[.agg #[.pointer p], .int .i64 er]) ∧ Below w.heap.size w w' ∧
    ((∃ x, Allowed x ∧ bytesN x = l0 ∧ er = 0 ∧ NumIs w' (.agg #[.pointer p]) x) ∨ ((¬ ∃ x, Allowed x ∧ bytesN x = l0) ∧ p = none ∧ er = 2))
def natsP (nums : List Int) : List Nat := (nums.filter fun y => decide (0 ≤ y)).map Int.toNat
theorem natsP_mem {nums : List Int} {e : Nat} : e ∈ natsP nums ↔ (e : Int) ∈ nums := by
  unfold natsP
  simp only [List.mem_map, List.mem_filter, decide_eq_true_eq]
  constructor
  · rintro ⟨y, ⟨h1, h2⟩, rfl⟩
    rw [show ((y.toNat : Nat) : Int) = y by omega]
    exact h1
  · intro h
    exact ⟨(e : Int), ⟨h, by omega⟩, by simp⟩
def ldU (nums : List Int) : List Int := 0 :: (nums ++ covU (natsP nums))
theorem ldU_length {nums : List Int} (h : nums.length ≤ 3000) : (ldU nums).length ≤ roomW := by
  have h1 := covU_length (natsP nums)
  have h2 : (natsP nums).length ≤ nums.length := by unfold natsP; rw [List.length_map]; exact List.length_filter_le _ _
  unfold ldU roomW
  simp only [List.length_cons, List.length_append]
  omega
theorem ldU_mem {nums : List Int} {y : Int} (h : y ∈ nums) : y ∈ ldU nums := by simp [ldU, h]
theorem ldU_cov {nums : List Int} {y : Int} (h : y ∈ covU (natsP nums)) : y ∈ ldU nums := by simp [ldU, h]
theorem ldU_mono {nums : List Int} {y z : Int} (h : z ∈ ldU nums) : z ∈ ldU (nums ++ [y]) := by
  unfold ldU at h ⊢
  simp only [List.mem_cons, List.mem_append] at h ⊢
  rcases h with h | h | h
  · exact .inl h
  · exact .inr (.inl (.inl h))
  · refine .inr (.inr ?_)
    have e : ∃ t, natsP (nums ++ [y]) = natsP nums ++ t := ⟨_, by unfold natsP; rw [List.filter_append, List.map_append]⟩
    obtain ⟨t, e⟩ := e
    unfold covU at h ⊢
    rw [e]
    simp only [List.mem_append, List.flatMap_append] at h ⊢
    rcases h with h | h
    · exact .inl (.inl h)
    · exact .inr h
def GoodN (nums : List Int) : Prop := ∀ y ∈ nums, wl y ≤ 300 ∧ ∀ e ∈ exps y, (e : Int) ∈ nums
theorem goodN_hull {nums : List Int} (h : GoodN nums) : Hull (natsP nums) where
  up p hp f hf := natsP_mem.2 ((h _ (natsP_mem.1 hp)).2 f hf)
  len p hp := by have := (h _ (natsP_mem.1 hp)).1; omega
theorem goodN_next {nums : List Int} (h : GoodN nums) {e : Nat} (he : (e : Int) ∈ nums) : NextIn (ldU nums) e :=
  hull_next (goodN_hull h) (fun _ hx => ldU_cov hx) e (.inl ⟨e, natsP_mem.2 he, 0, by omega, rfl⟩)
theorem GoodN.push {nums : List Int} (h : GoodN nums) {y : Int} (hw : wl y ≤ 300) (he : ∀ e ∈ exps y, (e : Int) ∈ nums) : GoodN (nums ++ [y]) := by
  intro z hz
  rcases List.mem_append.1 hz with hz | hz
  · exact ⟨(h z hz).1, fun e he => List.mem_append.2 (.inl ((h z hz).2 e he))⟩
  · simp at hz
    subst hz
    exact ⟨hw, fun e h => List.mem_append.2 (.inl (he e h))⟩
theorem WInv.mono {w : World} {b : WB} {vs U U' : List Int} (h : WInv w b vs U) (hs : ∀ x ∈ U, x ∈ U') (hl : U'.length ≤ roomW) : WInv w b vs U' :=
  { h with sub := fun x hx => hs x (h.sub x hx), room := hl }
theorem WInv.not_u8 {w : World} {b : WB} {vs U : List Int} (h : WInv w b vs U) : ∀ k, b.M k → ¬ TyBlk w k 5 := by
  rintro k hk ⟨cs, fz, e⟩
  obtain ⟨cap, cur, f1, f2, -⟩ := h.forms
  rcases hk with rfl | rfl | rfl | rfl | rfl
  · rw [f1] at e
    simp only [Option.some.injEq, Obj.cells.injEq] at e
    exact absurd e.2.1 (by decide)
  · rw [f2] at e
    simp only [Option.some.injEq, Obj.cells.injEq] at e
    exact absurd e.2.1 (by decide)
  · obtain ⟨es, ec, q1, -⟩ := h.places
    rw [q1] at e
    cases e
  · obtain ⟨l, ⟨es, ec, q1, -⟩, -⟩ := h.greater
    rw [q1] at e
    cases e
  · obtain ⟨l, ⟨es, ec, q1, -⟩, -⟩ := h.order
    rw [q1] at e
    cases e
theorem own_not_u8 {w : World} {B s n : Nat} {v : Value} {xs : List Value} (h : w.ownsRow B 98 s v n xs) : ∀ q, v.ownBlock = some q → ¬ TyBlk w q 5 := by
  rintro k hk ⟨cs, fz, e⟩
  rcases h.2 with ⟨rfl, _⟩ | ⟨g, cap, cur, rfl, _, hg, _⟩
  · simp [Value.ownBlock] at hk
  · have : g = k := Option.some.inj hk
    subst this
    rw [hg] at e
    simp only [Option.some.injEq, Obj.cells.injEq] at e
    exact absurd e.2.1 (by decide)
structure LD (w W : World) (p0 lv : Nat) (nums : List Int) (vs1 : List Int) (b1 : WB) (pv : Value) (left : List Int) : Prop where
  inv : WInv W b1 vs1 (ldU nums)
  p : b1.p = p0
  below : Below w.heap.size w W
  mge : ∀ q, b1.M q → w.heap.size + 1 ≤ q
  res : W.heap[w.heap.size]? = some (.cells #[.pointer none] 30 (0, 0))
  own : W.ownsRow (lv + 1) 3 1 pv nums.length (icells (nums.map fun y => vs1.idxOf y))
  free : ∀ q, pv.ownBlock = some q → WFree W b1 vs1 q
  freeL : WFree W b1 vs1 lv
  lvl : w.heap.size < lv
  left : LeftAt W lv left
  mem : ∀ y ∈ nums, y ∈ vs1
  good : GoodN nums
section
variable {w W : World} {p0 lv : Nat} {nums vs1 left : List Int} {b1 : WB} {pv : Value}
theorem LD.flt (h : LD w W p0 lv nums vs1 b1 pv left) : b1.f < W.heap.size := h.inv.lt _ (.inr (.inl rfl))
theorem LD.write (h : LD w W p0 lv nums vs1 b1 pv left) {W' : World} {M : Nat → Prop} (e : Ext M W W')
    (hM : ∀ q, M q → q < W.heap.size → WFree W b1 vs1 q ∧ pv.ownBlock ≠ some q ∧ q ≠ lv ∧ w.heap.size < q ∧ ¬ TyBlk W q 5) : LD w W' p0 lv nums vs1 b1 pv left := by
  have hf : ¬ M b1.f := fun hm => (hM _ hm h.flt).1.1 (.inr (.inl rfl))
  refine ⟨h.inv.extF e fun q hq hl => (hM q hq hl).1, h.p, ⟨e.os.trans h.below.os, e.tape.trans h.below.tape, e.output.trans h.below.output, Nat.le_trans h.below.size e.size, fun q hq => (e.block q (by have := h.below.size; omega) fun hm => by
    have h1 := (hM q hm (by have := h.below.size; omega)).2.2.2.1; omega).trans (h.below.block q hq)⟩, h.mge, e.get h.res (fun hm => by have := (hM _ hm (lt_of_blk h.res)).2.2.2.1; omega), own_ext h.own e (fun q hq hm => (hM q hm (h.own.lt q hq).2).2.1 hq), fun q hq => (h.free q hq).same e h.flt hf, h.freeL.same e h.flt hf, h.lvl, ?_, h.mem, h.good⟩
  obtain ⟨a, c, h1, h2, h3⟩ := h.left.var
  have hlv := lt_of_blk h1
  refine ⟨h.left.range, h.left.len, a, c, e.get h1 (fun hm => (hM lv hm hlv).2.2.1 rfl), h2, fun hl => ?_⟩
  obtain ⟨b, o, q1, q2, q3, q4, q5⟩ := h3 hl
  have hb := e.block b q3 (fun hm => (hM b hm q3).2.2.2.2 q4)
  exact ⟨b, o, q1, q2, Nat.lt_of_lt_of_le q3 e.size, q4.same hb, fun i x hx => (cell_same hb _).trans (q5 i x hx)⟩
theorem LD.same (h : LD w W p0 lv nums vs1 b1 pv left) {W' : World} (e : Ext noB W W') : LD w W' p0 lv nums vs1 b1 pv left := h.write e fun q hq => hq.elim
theorem LD.read (h : LD w W p0 lv nums vs1 b1 pv left) {W' : World} {left' : List Int} (e : Ext (fun q => q = lv) W W') (hl : LeftAt W' lv left') : LD w W' p0 lv nums vs1 b1 pv left' := by
  have hf : b1.f ≠ lv := fun e => h.freeL.1 (e ▸ .inr (.inl rfl))
  have hlv := h.lvl
  refine ⟨h.inv.extF e fun q hq _ => hq ▸ h.freeL, h.p, below_ext h.below e (fun q hq => by omega), h.mge, e.get h.res (by omega), own_ext h.own e (fun q hq hm => by have := (h.own.lt q hq).1; omega), fun q hq => (h.free q hq).same e h.flt hf, h.freeL.same e h.flt hf, h.lvl, hl, h.mem, h.good⟩
theorem LD.step (h : LD w W p0 lv nums vs1 b1 pv left) {W' : World} {vs2 : List Int} {b2 : WB} {U : List Int} (hU : U = ldU nums) (hs : WStep U W W' b1 b2 vs1 vs2) (hf : FStep noB W W' b1 b2 vs1 vs2) : LD w W' p0 lv nums vs2 b2 pv left := by
  subst hU
  obtain ⟨a, c, q1, -, -⟩ := h.left.var
  refine ⟨hs.inv, hs.p.trans h.p, below_ext h.below hs.ext (fun q hq => by have := h.mge q hq; omega), fun q hq => ?_, hs.ext.get h.res (fun hm => by have := h.mge _ hm; omega), ?_, fun q hq => hf q (h.own.lt q hq).2 (fun e => e) (h.free q hq), hf lv (lt_of_blk q1) (fun e => e) h.freeL, h.lvl, h.left.keep hs.ext h.freeL.1 h.inv.not_u8, fun y hy => hs.pre.subset (h.mem y hy), h.good⟩
  · rcases hs.news q hq with h1 | h1
    · exact h.mge q h1
    · have := lt_of_blk h.res; omega
  · have e : nums.map (fun y => vs2.idxOf y) = nums.map (fun y => vs1.idxOf y) := List.map_congr_left fun y hy => idxOf_prefix hs.pre (h.mem y hy)
    rw [e]
    exact own_ext h.own hs.ext fun q hq => (h.free q hq).1
theorem LD.grow (h : LD w W p0 lv nums vs1 b1 pv left) (hl : nums.length ≤ 2999) (y : Int) : WInv W b1 vs1 (ldU (nums ++ [y])) :=
  h.inv.mono (fun _ hx => ldU_mono hx) (ldU_length (by simp; omega))
structure LK (w W : World) (p0 lv : Nat) (nums vs1 : List Int) (b1 : WB) (pv : Value) (left : List Int) (tl : List (Bool × Int)) (rv : Value) : Prop where
  ld : LD w W p0 lv nums vs1 b1 pv left
  own : W.ownsRow (lv + 1) 98 2 rv tl.length (tcells (encZ vs1 tl))
  mem : ∀ t ∈ tl, t.2 ∈ nums
  free : ∀ q, rv.ownBlock = some q → WFree W b1 vs1 q ∧ pv.ownBlock ≠ some q
theorem LK.start (h : LD w W p0 lv nums vs1 b1 pv left) : LK w W p0 lv nums vs1 b1 pv left [] (.slice none 0 0) :=
  ⟨h, World.ownsRow_nil _ _ _ _, fun t ht => by simp at ht, fun q hq => by simp [Value.ownBlock] at hq⟩
theorem LK.same {tl : List (Bool × Int)} {rv : Value} (h : LK w W p0 lv nums vs1 b1 pv left tl rv) {W' : World} (e : Ext noB W W') : LK w W' p0 lv nums vs1 b1 pv left tl rv :=
  ⟨h.ld.same e, own_ext h.own e (fun _ _ h => h), h.mem, fun q hq => ⟨(h.free q hq).1.same e h.ld.flt (fun h => h), (h.free q hq).2⟩⟩
theorem LK.read {tl : List (Bool × Int)} {rv : Value} (h : LK w W p0 lv nums vs1 b1 pv left tl rv) {W' : World} {left' : List Int} (e : Ext (fun q => q = lv) W W') (hl : LeftAt W' lv left') : LK w W' p0 lv nums vs1 b1 pv left' tl rv :=
  ⟨h.ld.read e hl, own_ext h.own e (fun q hq hm => by have := (h.own.lt q hq).1; omega), h.mem, fun q hq => ⟨(h.free q hq).1.same e h.ld.flt (fun e => h.ld.freeL.1 (e ▸ .inr (.inl rfl))), (h.free q hq).2⟩⟩
theorem LK.push {tl : List (Bool × Int)} {rv rv' : Value} (h : LK w W p0 lv nums vs1 b1 pv left tl rv) {W' : World} {m : Bool} {z : Int} (hz : z ∈ nums) (hg : W.grownBy W' rv.ownBlock) (hn : NewOr W rv rv') (hown : W'.ownsRow (lv + 1) 98 2 rv' (tl.length + 1) (tcells (encZ vs1 tl) ++ [.bool m, .int .i64 (vs1.idxOf z : Nat)])) :
    LK w W' p0 lv nums vs1 b1 pv left (tl ++ [(m, z)]) rv' := by
  have hx : Ext (fun q => rv.ownBlock = some q) W W' := ⟨hg.os, hg.tape, hg.output, hg.size, fun q hq hn => hg.block q hq fun e => hn e.symm⟩
  have hty := own_not_u8 h.own
  have hl : W.heap.size > 0 := by have := lt_of_blk h.ld.res; omega
  have hld := h.ld.write hx fun q hq hlt => ⟨(h.free q hq).1, (h.free q hq).2, by have := (h.own.lt q hq).1; omega, by have := (h.own.lt q hq).1; have := h.ld.lvl; omega, hty q hq⟩
  refine ⟨hld, ?_, fun t ht => ?_, fun q hq => ?_⟩
  · have e : tcells (encZ vs1 (tl ++ [(m, z)])) = tcells (encZ vs1 tl) ++ [.bool m, .int .i64 (vs1.idxOf z : Nat)] := by simp [encZ, tcells_append, tcells]
    rw [e, List.length_append]
    exact hown
  · rcases List.mem_append.1 ht with ht | ht
    · exact h.mem t ht
    · simp at ht; subst ht; exact hz
  · rcases hn with e | ⟨k, e, hk⟩
    · have hq' : rv.ownBlock = some q := by rw [← e]; exact hq
      exact ⟨(h.free q hq').1.same hx h.ld.flt (fun e => (h.free _ e).1.1 (.inr (.inl rfl))), (h.free q hq').2⟩
    · rw [e] at hq
      obtain rfl := Option.some.inj hq
      refine ⟨(h.ld.inv.fresh hk).same hx h.ld.flt (fun e => (h.free _ e).1.1 (.inr (.inl rfl))), fun e => ?_⟩
      have := (h.ld.own.lt _ e).2
      omega
theorem own_int_not_u8 {w : World} {B s n : Nat} {v : Value} {xs : List Value} (h : w.ownsRow B 3 s v n xs) : ∀ q, v.ownBlock = some q → ¬ TyBlk w q 5 := by
  rintro k hk ⟨cs, fz, e⟩
  rcases h.2 with ⟨rfl, _⟩ | ⟨g, cap, cur, rfl, _, hg, _⟩
  · simp [Value.ownBlock] at hk
  · have : g = k := Option.some.inj hk
    subst this
    rw [hg] at e
    simp only [Option.some.injEq, Obj.cells.injEq] at e
    exact absurd e.2.1 (by decide)
theorem LD.push (h : LD w W p0 lv nums vs1 b1 pv left) {y : Int} {W' W'' : World} {vs2 : List Int} {b2 : WB} {X : Nat → Prop} {pv' : Value} (hs : WStep (ldU (nums ++ [y])) W W' b1 b2 vs1 vs2) (hf : FStep X W W' b1 b2 vs1 vs2) (hX : ∀ q, X q → pv.ownBlock ≠ some q ∧ q ≠ lv)
    (hy : y ∈ vs2) (hw : wl y ≤ 300) (he : ∀ e ∈ exps y, (e : Int) ∈ nums) (hg : W'.grownBy W'' pv.ownBlock) (hn : NewOr W' pv pv') (hown : W''.ownsRow (lv + 1) 3 1 pv' (nums.length + 1) (icells (nums.map fun y => vs1.idxOf y) ++ [.int .i64 (vs2.idxOf y : Nat)])) :
    LD w W'' p0 lv (nums ++ [y]) vs2 b2 pv' left := by
  obtain ⟨a, c, q1, -, -⟩ := h.left.var
  have hlvl := lt_of_blk q1
  have hres := lt_of_blk h.res
  have hfree1 : ∀ q, pv.ownBlock = some q → WFree W' b2 vs2 q := fun q hq => hf q (h.own.lt q hq).2 (fun hx => (hX q hx).1 hq) (h.free q hq)
  have hfreeL1 : WFree W' b2 vs2 lv := hf lv hlvl (fun hx => (hX lv hx).2 rfl) h.freeL
  have hx : Ext (fun q => pv.ownBlock = some q) W' W'' := ⟨hg.os, hg.tape, hg.output, hg.size, fun q hq hn => hg.block q hq fun e => hn e.symm⟩
  have hff : ¬ pv.ownBlock = some b2.f := fun e => (hfree1 _ e).1 (.inr (.inl rfl))
  have hfl := hs.inv.lt b2.f (.inr (.inl rfl))
  have hown1 := own_ext h.own hs.ext fun q hq => (h.free q hq).1
  have hty := own_int_not_u8 hown1
  have hge : ∀ q, pv.ownBlock = some q → lv + 1 ≤ q := fun q hq => (h.own.lt q hq).1
  have hl1 := h.left.keep hs.ext h.freeL.1 h.inv.not_u8
  have hlv := h.lvl
  have hr1 := hs.ext.get h.res (fun hm => by have := h.mge _ hm; omega)
  refine ⟨hs.inv.extF hx fun q hq _ => hfree1 q hq, hs.p.trans h.p, below_ext (below_ext h.below hs.ext (fun q hq => by have := h.mge q hq; omega)) hx (fun q hq => by have := hge q hq; omega), fun q hq => ?_, hx.get hr1 (fun e => by have := hge _ e; omega), ?_, fun q hq => ?_, hfreeL1.same hx hfl hff, hlv, hl1.keep hx (fun e => by have := hge _ e; omega) (fun q hq => hty q hq), fun z hz => ?_, h.good.push hw he⟩
  · rcases hs.news q hq with h1 | h1
    · exact h.mge q h1
    · omega
  · have e : (nums ++ [y]).map (fun y => vs2.idxOf y) = nums.map (fun y => vs1.idxOf y) ++ [vs2.idxOf y] := by
      rw [List.map_append]
      congr 1
      exact List.map_congr_left fun z hz => idxOf_prefix hs.pre (h.mem z hz)
    rw [e, List.length_append]
    unfold icells
    rw [List.map_append]
    exact hown
  · rcases hn with e | ⟨k, e, hk⟩
    · rw [e] at hq
      exact (hfree1 q hq).same hx hfl hff
    · rw [e] at hq
      obtain rfl := Option.some.inj hq
      exact (hs.inv.fresh hk).same hx hfl hff
  · rcases List.mem_append.1 hz with hz | hz
    · exact hs.pre.subset (h.mem z hz)
    · simp at hz; subst hz; exact hy
theorem encZ_enc {vs : List Int} {tl : List (Bool × Int)} (h : FormedZ tl) : enc vs (zval tl) = encZ vs tl := by
  unfold enc encZ
  rw [formed_form h]
  unfold zT
  rw [List.map_map]
  apply List.map_congr_left
  intro t ht
  obtain ⟨i, hi⟩ := List.getElem?_of_mem ht
  have := (h i t hi).1
  simp only [Function.comp]
  rw [show ((t.2.toNat : Nat) : Int) = t.2 by omega]
theorem exps_zval {tl : List (Bool × Int)} (h : FormedZ tl) {e : Nat} (he : e ∈ exps (zval tl)) : ∃ t ∈ tl, t.2 = (e : Int) := by
  obtain ⟨t, ht, rfl⟩ := mem_exps.1 he
  rw [formed_form h] at ht
  obtain ⟨s, hs, rfl⟩ := List.mem_map.1 ht
  obtain ⟨i, hi⟩ := List.getElem?_of_mem hs
  have := (h i s hi).1
  exact ⟨s, hs, by simp only; omega⟩
theorem wl_zval {tl : List (Bool × Int)} (h : FormedZ tl) : wl (zval tl) = tl.length := by
  unfold wl
  rw [formed_form h]
  simp [zT]
end
end Go.Proofs.Ytgchfbfgjanaiaa

namespace Go.Proofs.Ytgchfbfgjanaiaa
open Go.RowKit Sr
theorem bsize_l (b : ByteArray) : b.size = b.data.toList.length := by
  show b.data.size = _
  exact Array.length_toList.symm
theorem bloop (b : ByteArray) : ∀ n i r, b.size - i = n → ByteArray.toList.loop b i r = r.reverse ++ b.data.toList.drop i := by
  have hs := bsize_l b
  intro n
  induction n with
  | zero =>
    intro i r h
    rw [ByteArray.toList.loop, if_neg (by omega), List.drop_eq_nil_of_le (by omega), List.append_nil]
  | succ n ih =>
    intro i r h
    have hi2 : i < b.data.toList.length := by omega
    rw [ByteArray.toList.loop, if_pos (by omega), ih (i + 1) _ (by omega), List.drop_eq_getElem_cons hi2]
    have hg : b.get! i = b.data.toList[i] := by
      show b.data[i]! = _
      rw [getElem!_pos b.data i (by simpa using hi2)]
      simp
    rw [hg, List.reverse_cons, List.append_assoc]
    rfl
theorem btoList (b : ByteArray) : b.toList = b.data.toList := by
  unfold ByteArray.toList
  rw [bloop b _ 0 [] rfl]
  simp
set_option maxRecDepth 100000 in
set_option maxHeartbeats 4000000 in
theorem bytesEqual_any {w : World} {va vb : Value} {la lb : List Int} (ha : BytesAt w va la) (hb : BytesAt w vb lb) : Calls Try.prog 57 #[va, vb] w fun e w' => e = .returned (.bool (decide (la = lb))) ∧ w' = w := by
  have conv : ∀ {v : Value} {l : List Int}, BytesAt w v l → ∃ a c, v = .slice a l.length c ∧ (convert 22 9 (.slice a l.length c)).run Try.prog w = .ok (.string (strOfNums l)) w := fun {v l} h => by
    obtain ⟨a, c, rfl, h2, h3, h4⟩ := h.at_
    refine ⟨a, c, rfl, ?_⟩
    by_cases hn : a = none
    · subst hn
      have hl : l = [] := by
        cases l with
        | nil => rfl
        | cons x l => obtain ⟨b, o, e, _⟩ := h4 (by simp); cases e
      subst hl
      exact run_convert_bytes_nil w 22 5 Try.underlying22 Try.underlying5 0 c 9 Try.underlying9
    · obtain ⟨b, o, rfl, _⟩ := h3 hn
      refine run_convert_bytes_arg w 22 5 Try.underlying22 Try.underlying5 b o _ c l rfl (fun i hi => ?_) 9 Try.underlying9
      obtain ⟨b', o', e, _, _, q⟩ := h4 (fun hh => by rw [hh] at hi; simp at hi)
      simp only [Option.some.injEq, Addr.mk.injEq] at e
      obtain ⟨rfl, rfl, _⟩ := e
      exact q i (l.getD i 0) (by rw [List.getD_eq_getElem?_getD, List.getElem?_eq_getElem hi]; rfl)
  obtain ⟨aa, ca, rfl, c1⟩ := conv ha
  obtain ⟨ab, cb, rfl, c2⟩ := conv hb
  have hs : (strOfNums la = strOfNums lb) ↔ la = lb := ⟨fun h => strOfNums_inj ha.range hb.range h, fun h => by rw [h]⟩
  have HS := Sealed.mk hs; clear hs
  obtain ⟨na, hna⟩ : ∃ na, na = la.length := ⟨_, rfl⟩
  obtain ⟨nb, hnb⟩ : ∃ nb, nb = lb.length := ⟨_, rfl⟩
  rw [← hna] at c1 ⊢
  rw [← hnb] at c2 ⊢
  clear hna hnb ha hb conv
  go_enter Try.func57, Try.ntmps57
  go_wp2_with fail
  go_ret
  refine ⟨show Ending.returned (.bool ((strOfNums la).toList == (strOfNums lb).toList)) = _ from ?_, rfl⟩
  rw [btoList, btoList]
  congr 2
  by_cases h : la = lb
  · subst h
    simp
  · rw [decide_eq_false h, beq_eq_false_iff_ne]
    intro e
    exact h (HS.out.1 (ByteArray.ext (Array.ext' e)))
end Go.Proofs.Ytgchfbfgjanaiaa
