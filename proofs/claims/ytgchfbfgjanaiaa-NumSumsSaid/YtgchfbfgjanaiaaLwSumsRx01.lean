/-
  shifts of numbers: plain laws
  powers of two: plain laws; two numbers out of those that are made
  numbers stay while other memory of the call's own is written
  sums in another order: plain laws; lists of int8s in memory
  two lists of terms and cells of numbers, all of a call's own
  sandreckonerlaw01.NumSums: the walk
  lists of int8s, and bytes, that a law reads: opened
-/
import Derived.Test.YtgchfbfgjanaiaaK02
import Derived.Test.YtgchfbfgjanaiaaJ35
import Derived.Deep.DeepCutAuto
import Derived.Test.YtgchfbfgjanaiaaK01
import Derived.Deep.CutRange
import Derived.StillTailTactics
set_option linter.unusedSimpArgs false
set_option linter.unusedVariables false
namespace Go.Proofs.Ytgchfbfgjanaiaa
open Go.RowKit Sr

theorem shl_zero (y : Int) : shl 0 y = 0 := by unfold shl shlL; rw [form_zero]; rfl

theorem whole_shl {x y z : Int} (h : Whole x y) : Whole (shl x y) z ↔ Whole x (y + z) := by
  constructor
  · intro k t ht
    have h1 := h t ht
    have h2 := k (t.1, ((t.2 : Int) + y).toNat) (by rw [form_shl h]; exact List.mem_map.2 ⟨t, ht, rfl⟩)
    simp only at h2
    omega
  · intro k t ht
    rw [form_shl h] at ht
    obtain ⟨s, hs, rfl⟩ := List.mem_map.1 ht
    have h1 := h s hs
    have h2 := k s hs
    simp only
    omega

theorem shl_shl {x y z : Int} (h : Whole x y) (k : Whole x (y + z)) : shl (shl x y) z = shl x (y + z) := by
  unfold shl
  congr 1
  show ((form (shl x y)).map _) = _
  rw [form_shl h]
  unfold shlL
  rw [List.map_map]
  apply List.map_congr_left
  intro t ht
  have h1 := h t ht
  have h2 := k t ht
  simp only [Function.comp_def]
  rw [show ((((t.2 : Int) + y).toNat : Nat) : Int) + z = (t.2 : Int) + (y + z) by omega]

theorem shl_none (x : Int) : shl x 0 = x := by have := shl_nat x 0; simpa using this

/-- back again -/
theorem shl_again {x y : Int} (h : Whole x y) : Whole (shl x y) (-y) ∧ shl (shl x y) (-y) = x := by
  have hk : Whole x (y + -y) := fun t ht => by omega
  refine ⟨(whole_shl h).2 hk, ?_⟩
  rw [shl_shl h hk, show y + -y = (0 : Int) by omega, shl_none]

/-- of a sum -/
theorem shl_sum {x z y : Int} (hx : Whole x y) (hz : Whole z y) : Whole (x + z) y ∧ shl (x + z) y = shl x y + shl z y := by
  rcases Int.lt_or_le y 0 with h | h
  · obtain ⟨n, rfl⟩ : ∃ n : Nat, y = -(n : Int) := ⟨y.natAbs, by omega⟩
    have e1 := shl_back hx
    have e2 := shl_back hz
    have e3 : x + z = 2 ^ n * (shl x (-(n : Int)) + shl z (-(n : Int))) := by rw [Int.mul_add, e1, e2]
    refine ⟨whole_iff.2 ⟨_, e3⟩, ?_⟩
    rw [e3, shl_div]
  · obtain ⟨n, rfl⟩ : ∃ n : Nat, y = (n : Int) := ⟨y.natAbs, by omega⟩
    refine ⟨whole_nat _ _, ?_⟩
    rw [shl_nat, shl_nat, shl_nat, Int.mul_add]

theorem wl_pow2 (n : Nat) : wl (2 ^ n) = 1 := by unfold wl; rw [form_pow2]; rfl

theorem shl_one (n : Nat) : shl 1 n = 2 ^ n := by rw [shl_nat, Int.mul_one]

theorem shiftR_nat (x : Int) (n : Nat) : shiftR x n = gv (2 ^ n * x) := by unfold shiftR; rw [if_pos (whole_nat x n), shl_nat]

/-- a shift to the left is a product -/
theorem mulR_pow {x : Int} (hx : Allowed x) (n : Nat) : mulR x (2 ^ n) = shiftR x n := by
  have := hx.1
  unfold mulR
  rw [wl_pow2, Nat.mul_one, if_pos (by unfold wl; omega), shiftR_nat, Int.mul_comm]

theorem shiftR_ways (x y : Int) : ∃ u e, shiftR x y = (u, e) ∧ ((e = 0 ∧ Whole x y ∧ Allowed (shl x y) ∧ u = shl x y) ∨ (e = 5 ∧ Whole x y ∧ u = 0) ∨ (e = 4 ∧ ¬ Whole x y ∧ u = 0)) := by
  unfold shiftR
  by_cases h : Whole x y
  · rw [if_pos h]
    by_cases k : Allowed (shl x y)
    · exact ⟨_, 0, gv_ok k, .inl ⟨rfl, h, k, rfl⟩⟩
    · exact ⟨0, 5, gv_no k, .inr (.inl ⟨rfl, h, rfl⟩)⟩
  · rw [if_neg h]; exact ⟨0, 4, rfl, .inr (.inr ⟨rfl, h, rfl⟩)⟩

theorem shiftR_ok {x y : Int} (h : Whole x y) (k : Allowed (shl x y)) : shiftR x y = (shl x y, 0) := by unfold shiftR; rw [if_pos h, gv_ok k]

/-- the least term decides -/
theorem whole_last {x y : Int} {t : T} (h : (form x)[wl x - 1]? = some t) : Whole x y ↔ 0 ≤ (t.2 : Int) + y := by
  constructor
  · intro k; exact k t (List.mem_of_getElem? h)
  · intro k s hs
    obtain ⟨n, hu⟩ := form_form x
    have hp : ∀ (l : List T) (n : Nat), Under n l → ∀ (i j : Nat) (a b : T), i ≤ j → l[i]? = some a → l[j]? = some b → b.2 ≤ a.2 := by
      intro l
      induction l with
      | nil => intro n _ i j a b _ ha; simp at ha
      | cons c l ih =>
        intro n hu i j a b hij ha hb
        cases i with
        | zero =>
          simp at ha; subst ha
          have := under_mem (c :: l) (c.2 + 1) ⟨by omega, hu.2⟩ b (List.mem_of_getElem? hb)
          omega
        | succ i =>
          cases j with
          | zero => omega
          | succ j => exact ih _ hu.2.1 i j a b (by omega) (by simpa using ha) (by simpa using hb)
    obtain ⟨i, hi⟩ := List.getElem?_of_mem hs
    have hil := (List.getElem?_eq_some_iff.1 hi).1
    have := hp _ _ hu i (wl x - 1) s t (by unfold wl; omega) hi h
    omega

theorem whole_zero (y : Int) : Whole 0 y := fun t ht => by rw [form_zero] at ht; simp at ht

end Go.Proofs.Ytgchfbfgjanaiaa

namespace Go.Proofs.Ytgchfbfgjanaiaa
open Go.RowKit Sr

theorem natAbs_mod {x : Int} (h : Mod x) : Mod (x.natAbs : Int) := by
  rcases Int.natAbs_eq x with e | e
  · rw [← e]; exact h
  · have e2 : ((x.natAbs : Nat) : Int) = -x := by omega
    rw [e2]
    refine ⟨allowed_neg h.1, by rw [wl_neg]; exact h.2.1, ?_⟩
    have := h.2.2
    unfold weight at this ⊢
    rw [plist_neg]; exact this

theorem pow_ways {n : Nat} (h : Mod (n : Int)) : (gv (2 ^ n) = (2 ^ n, 0) ∧ Allowed (2 ^ n) ∧ height (2 ^ n) = height (n : Int) + 1 ∧ height (n : Int) ≤ 99) ∨ (gv (2 ^ n) = (0, 5) ∧ height (n : Int) = 100) := by
  have hh := h.1.2.2.2
  by_cases k : height (n : Int) + 1 ≤ 100
  · obtain ⟨h1, h2, h3⟩ := allowed_pow2 h.1 (by have := h.2.2; omega) k
    exact .inl ⟨gv_ok h1, h1, h3, by omega⟩
  · refine .inr ⟨gv_no fun ha => ?_, by omega⟩
    have he : exps (2 ^ n) = [n] := by simp [exps, form_pow2]
    have : height (2 ^ n) = height (n : Int) + 1 := by rw [height_eq, he]; simp
    have := ha.2.2.2
    omega

theorem sg_pow_self (n : Nat) : sg (2 ^ n - (n : Int)) = 1 := by
  have := lt_two_pow n
  unfold sg
  rw [if_neg (by omega), if_neg (by omega)]

theorem pow_lt {a b : Nat} (h : a < b) : (2 : Int) ^ a < 2 ^ b := by
  have h1 := pow_mono (show a + 1 ≤ b by omega)
  rw [pow_succ'] at h1
  have := two_pow_pos a
  omega

theorem sg_pow_pow (n k : Nat) : sg (2 ^ n - 2 ^ k) = sg ((n : Int) - (k : Int)) := by
  unfold sg
  rcases Nat.lt_trichotomy n k with h | h | h
  · have := pow_lt h
    rw [if_pos (by omega), if_pos (by omega)]
  · subst h; simp
  · have := pow_lt h
    rw [if_neg (by omega), if_neg (by omega), if_neg (by omega), if_neg (by omega)]

theorem sg_pow_more (n k : Nat) : sg (2 ^ n + 2 ^ k - 2 ^ n) = 1 ∧ sg (2 ^ n + 2 ^ k - 2 ^ k) = 1 := by
  have h1 := two_pow_pos n
  have h2 := two_pow_pos k
  unfold sg
  exact ⟨by rw [if_neg (by omega), if_neg (by omega)], by rw [if_neg (by omega), if_neg (by omega)]⟩

theorem termsZ_pow (n : Nat) : termsZ (2 ^ n) = [(false, (n : Int))] := by unfold termsZ; rw [form_pow2]; rfl

theorem pick_two {w W2 : World} {av : Option Addr} {cv : Nat} {zs : List Int} {ps : List (Option Addr)} (hns : NsOwn W2 w.heap.size (.slice av zs.length cv) zs ps) (hml : MadeL zs) (hb2 : Below w.heap.size w W2) (b0 b1 : Int) :
    ∃ (x y : Int) (px py : Option Addr) (bb oo m i j : Nat), av = some ⟨bb, oo, none⟩ ∧ m = zs.length ∧ m ≤ cv ∧ i < m ∧ j < m ∧
      (∀ W, Calls Try.prog 46 #[.int .i64 b0, .int .i64 (m : Int)] W fun e w' => e = .returned (.int .i64 (i : Int)) ∧ w' = W) ∧
      (∀ W, Calls Try.prog 46 #[.int .i64 b1, .int .i64 (m : Int)] W fun e w' => e = .returned (.int .i64 (j : Int)) ∧ w' = W) ∧
      (∀ W, Below W2.heap.size W2 W → W.cell? ⟨bb, oo + i, none⟩ = some (.pointer px) ∧ W.cell? ⟨bb, oo + j, none⟩ = some (.pointer py)) ∧
      St w W2 [] [] ∧ NumIs W2 (.agg #[.pointer px]) x ∧ NumIs W2 (.agg #[.pointer py]) y ∧ Mod x ∧ Mod y := by
  have hpos : 0 < zs.length := by have := hml.1; omega
  have hle : zs.length ≤ 100000 := by have := hml.2.1; omega
  obtain ⟨i, hi, -, hr1⟩ := lawRest_pick b0 hpos hle
  obtain ⟨j, hj, -, hr2⟩ := lawRest_pick b1 hpos hle
  obtain ⟨bb, oo, c, px, x, e1, hc, hbb, hx, hcx, hnx⟩ := hns.at_.pick hi
  obtain ⟨bb', oo', c', py, y, e2, -, -, hy, hcy, hny⟩ := hns.at_.pick hj
  obtain ⟨rfl, -, rfl⟩ := Value.slice.inj e1
  obtain ⟨e2', -, -⟩ := Value.slice.inj e2
  obtain ⟨rfl, rfl⟩ : bb = bb' ∧ oo = oo' := by simpa using e2'
  refine ⟨x, y, px, py, bb, oo, zs.length, i, j, rfl, rfl, hc, hi, hj, hr1, hr2, fun W hb => ?_, (St.start w).adv hb2, hnx, hny, ⟨hnx.1, hml.2.2 x (List.mem_of_getElem? hx)⟩, ⟨hny.1, hml.2.2 y (List.mem_of_getElem? hy)⟩⟩
  have hs := fun q => cell_same (hb.block _ hbb) q
  exact ⟨(hs _).trans hcx, (hs _).trans hcy⟩

end Go.Proofs.Ytgchfbfgjanaiaa

namespace Go.Proofs.Ytgchfbfgjanaiaa
open Go.RowKit Sr

/-- blocks of other types than those of numbers and of the cells that hold them -/
def Afar (w : World) (M : Nat → Prop) : Prop := ∀ k, M k → ∀ t, TyBlk w k t → t ≠ 98 ∧ t ≠ 96 ∧ t ≠ 128 ∧ t ≠ 30

theorem Afar.apart {w : World} {M : Nat → Prop} (h : Afar w M) : Apart w M := fun k hk t ht => ⟨(h k hk t ht).1, (h k hk t ht).2.1, (h k hk t ht).2.2.1⟩

theorem own_afar {w : World} {B t s n : Nat} {v : Value} {xs : List Value} (h : w.ownsRow B t s v n xs) (ht : t ≠ 98 ∧ t ≠ 96 ∧ t ≠ 128 ∧ t ≠ 30) : Afar w (fun q => v.ownBlock = some q) := by
  intro k hk t' ⟨cs, fz, e⟩
  rcases h.2 with ⟨rfl, _⟩ | ⟨g, cap, cur, rfl, _, hg, _⟩
  · simp [Value.ownBlock] at hk
  · have : g = k := Option.some.inj hk
    subst this
    rw [hg] at e
    simp only [Option.some.injEq, Obj.cells.injEq] at e
    rw [← e.2.1]
    exact ht

theorem St.afar {w0 W W' : World} {nums : NumL} {cells : CellL} {M : Nat → Prop} (h : St w0 W nums cells) (hM : Afar W M) (hB : ∀ k, M k → w0.heap.size ≤ k) (e : Ext M W W') : St w0 W' nums cells := by
  refine ⟨below_ext h.below e hB, fun i p x hi => (h.nums_ i p x hi).apart hM.apart e, fun i k p x hi => ⟨⟨e.get (h.blk i hi) fun hk => ?_, (h.cnum i hi).apart hM.apart e⟩, (h.cells_ i k p x hi).2⟩, h.apart⟩
  exact (hM k hk _ ⟨_, _, h.blk i hi⟩).2.2.2 rfl

/-- Bytes, the value written out -/
theorem Bytes_own {w : World} {u : Value} {x : Int} (h : NumIs w u x) : Calls Try.prog 23 #[u] w fun e w' => ∃ g c, e = .returned (.slice (some ⟨g, 0, none⟩) (bytesN x).length c) ∧ w'.ownsRow w.heap.size 5 1 (.slice (some ⟨g, 0, none⟩) (bytesN x).length c) (bytesN x).length (u8s (bytesN x)) ∧ Below w.heap.size w w' :=
  (Bytes_any h).mono fun e w' q => by
    obtain ⟨a, c, rfl, ho, hb⟩ := q
    have hpos : 0 < (bytesN x).length := by unfold bytesN; simp [twoN]
    obtain ⟨g, cap, e⟩ := own_form ho hpos
    obtain ⟨rfl, -, rfl⟩ := Value.slice.inj e
    exact ⟨g, _, rfl, ho, hb⟩

theorem trow_set : ∀ (l : List (Bool × Option Addr)) (i : Nat) (t : Bool × Option Addr), i < l.length → trow (l.set i t) = ((trow l).set (i * 2) (.bool t.1)).set (i * 2 + 1) (.pointer t.2)
  | [], i, t, h => by simp at h
  | s :: l, 0, t, _ => by simp [trow]
  | s :: l, i + 1, t, h => by
    have ih := trow_set l i t (by simpa using h)
    rw [show (i + 1) * 2 = i * 2 + 1 + 1 by omega]
    simp [trow, ih]

theorem trow_set1 : ∀ (l : List (Bool × Option Addr)) (i : Nat) (t : Bool × Option Addr) (b : Bool), l[i]? = some t → trow (l.set i (b, t.2)) = (trow l).set (i * 2) (.bool b)
  | [], i, t, b, h => by simp at h
  | s :: l, 0, t, b, h => by simp at h; subst h; simp [trow]
  | s :: l, i + 1, t, b, h => by
    have ih := trow_set1 l i t b (by simpa using h)
    rw [show (i + 1) * 2 = i * 2 + 1 + 1 by omega]
    simp [trow, ih]

theorem loadR_ok {x : Int} (h : Allowed x) : loadR (bytesN x) = (x, 0) := by
  have hx : ∃ y, Allowed y ∧ bytesN y = bytesN x := ⟨x, h, rfl⟩
  unfold loadR
  rw [dif_pos hx, bytesN_inj hx.choose_spec.1 h hx.choose_spec.2]

end Go.Proofs.Ytgchfbfgjanaiaa

namespace Go.Proofs.Ytgchfbfgjanaiaa
open Go.RowKit Sr

theorem val_perm {a b : List T} (h : a.Perm b) : val a = val b := by
  induction h with
  | nil => rfl
  | cons x _ ih => simp only [val]; rw [ih]
  | swap x y l => simp only [val]; omega
  | trans _ _ ih1 ih2 => exact ih1.trans ih2

theorem termsV_perm {a b : List (Bool × Int)} (h : a.Perm b) : termsV a = termsV b := val_perm (h.map _)

theorem sumR_perm {a b : List (Bool × Int)} (h : a.Perm b) : sumR a = sumR b := by
  unfold sumR
  rw [termsV_perm h, h.length_eq]
  congr 1
  simp only [eq_iff_iff]
  constructor
  · rintro ⟨t, ht, k⟩; exact ⟨t, h.mem_iff.1 ht, k⟩
  · rintro ⟨t, ht, k⟩; exact ⟨t, h.mem_iff.2 ht, k⟩

theorem rotated {α : Type} (d : α) (l : List α) (r : Nat) (hl : 0 < l.length) : ((List.range l.length).map fun i => l.getD ((i + r) % l.length) d).Perm l := by
  obtain ⟨n, hn⟩ : ∃ n, n = l.length := ⟨_, rfl⟩
  obtain ⟨s, hs⟩ : ∃ s, s = r % n := ⟨_, rfl⟩
  have hsn : s < n := by rw [hs]; exact Nat.mod_lt _ (by omega)
  have e : ((List.range l.length).map fun i => l.getD ((i + r) % l.length) d) = l.drop s ++ l.take s := by
    apply List.ext_getElem?
    intro i
    rw [← hn]
    by_cases hi : i < n
    · rw [List.getElem?_map, List.getElem?_range hi]
      simp only [Option.map_some]
      have hm : (i + r) % n = (i + s) % n := by rw [hs]; simp
      rw [hm]
      by_cases h1 : i + s < n
      · rw [Nat.mod_eq_of_lt h1, List.getElem?_append_left (by simp; omega), List.getElem?_drop, Nat.add_comm s i]
        rw [List.getD_eq_getElem?_getD, List.getElem?_eq_getElem (by omega)]; rfl
      · have h2 : (i + s) % n = i + s - n := by rw [Nat.mod_eq_sub_mod (by omega), Nat.mod_eq_of_lt (by omega)]
        rw [h2, List.getElem?_append_right (by simp; omega)]
        simp only [List.length_drop]
        rw [List.getElem?_take_of_lt (by omega), show i - (l.length - s) = i + s - n by omega]
        rw [List.getD_eq_getElem?_getD, List.getElem?_eq_getElem (by omega)]; rfl
    · rw [List.getElem?_eq_none (by simp; omega), List.getElem?_eq_none (by simp; omega)]
  rw [e]
  exact List.perm_append_comm.trans (by rw [List.take_append_drop])

/-- a list of int8s in memory -/
def I8At (w : World) (v : Value) (l : List Int) : Prop :=
  ∃ a c, v = .slice a l.length c ∧ l.length ≤ c ∧ (∀ z ∈ l, -128 ≤ z ∧ z ≤ 127) ∧ (l ≠ [] → ∃ b o, a = some ⟨b, o, none⟩ ∧ b < w.heap.size ∧ ∀ (i : Nat) (z : Int), l[i]? = some z → w.cell? ⟨b, o + i, none⟩ = some (.int .i8 z))

theorem I8At.below {w w1 : World} {v : Value} {l : List Int} (h : I8At w v l) (e : Below w.heap.size w w1) : I8At w1 v l := by
  obtain ⟨a, c, rfl, h1, h2, h3⟩ := h
  refine ⟨a, c, rfl, h1, h2, fun hne => ?_⟩
  obtain ⟨b, o, rfl, hb, h4⟩ := h3 hne
  exact ⟨b, o, rfl, Nat.lt_of_lt_of_le hb e.size, fun i z hz => (cell_same (e.block b hb) _).trans (h4 i z hz)⟩

/-- the term that an int8 asks for -/
def ofI8 (zs : List Int) (z : Int) : Bool × Int := (decide (z < 0), zs.getD (z % (zs.length : Int)).toNat 0)

end Go.Proofs.Ytgchfbfgjanaiaa

namespace Go.Proofs.Ytgchfbfgjanaiaa
open Go.RowKit Sr

theorem alloc_drew (w : World) (o : Obj) : (w.alloc o).drew = w.drew.alloc o := rfl

theorem sg_lt_zero (x : Int) : sg x < 0 ↔ x < 0 := by
  rcases sg_cases x with ⟨h, e⟩ | ⟨h, e⟩ | ⟨h, e⟩ <;> rw [e] <;> omega

/-- two lists of terms whose blocks are apart, and cells of numbers -/
structure SP (w0 W : World) (cells : CellL) (la lb : List (Bool × Int)) (av bv : Value) : Prop where
  st : St w0 W [] cells
  a : ∃ ts, TermsOwn W w0.heap.size av la ts
  b : ∃ ts, TermsOwn W w0.heap.size bv lb ts
  apart : ∀ q, av.ownBlock = some q → bv.ownBlock ≠ some q

theorem SP.adv {w0 W W' : World} {cells : CellL} {la lb : List (Bool × Int)} {av bv : Value} (h : SP w0 W cells la lb av bv) (e : Below W.heap.size W W') : SP w0 W' cells la lb av bv := by
  obtain ⟨ta, ha⟩ := h.a
  obtain ⟨tb, hb⟩ := h.b
  exact ⟨h.st.adv e, ⟨ta, ha.below e⟩, ⟨tb, hb.below e⟩, h.apart⟩

theorem SP.new {w0 W : World} {cells : CellL} {la lb : List (Bool × Int)} {av bv : Value} {p : Option Addr} {x : Int} (h : SP w0 W cells la lb av bv) (hn : NumIs W (.agg #[.pointer p]) x) : SP w0 (W.alloc (.cells #[.pointer p] 30)) ((W.heap.size, p, x) :: cells) la lb av bv := by
  have h1 := h.adv (below_new W (.cells #[.pointer p] 30))
  exact ⟨h.st.new hn, h1.a, h1.b, h1.apart⟩

/-- a cell that a walk from W on has made -/
theorem SP.make {w0 W W' : World} {cells : CellL} {la lb : List (Bool × Int)} {av bv : Value} {k : Nat} {p : Option Addr} {x : Int} (h : SP w0 W cells la lb av bv) (s : St W W' [] [(k, p, x)]) : SP w0 W' ((k, p, x) :: cells) la lb av bv := by
  have h1 := h.adv s.below
  have hk := (s.cells_ 0 k p x rfl)
  exact ⟨h1.st.cel hk.1 (Nat.le_trans h.st.below.size hk.2) fun j hj e => by have := h.st.lt j hj; omega, h1.a, h1.b, h1.apart⟩

theorem SP.lt {w0 W : World} {cells : CellL} {la lb : List (Bool × Int)} {g n c : Nat} {bv : Value} (h : SP w0 W cells la lb (.slice (some ⟨g, 0, none⟩) n c) bv) : g < W.heap.size := by
  obtain ⟨ts, hts⟩ := h.a
  exact (hts.own.lt g rfl).2

theorem SP.drop {w0 W : World} {cells : CellL} {la lb : List (Bool × Int)} {av bv : Value} (h : SP w0 W cells la lb av bv) {cells' : CellL} (hs : ∀ t ∈ cells', t ∈ cells) (hn : (cells'.map (·.1)).Nodup) : SP w0 W cells' la lb av bv :=
  ⟨h.st.sub hs hn, h.a, h.b, h.apart⟩

theorem own_typ {w : World} {B t s n q : Nat} {v : Value} {xs : List Value} (h : w.ownsRow B t s v n xs) (hq : v.ownBlock = some q) : ∃ cs fz, w.heap[q]? = some (.cells cs t fz) := by
  rcases h.2 with ⟨rfl, _⟩ | ⟨g, cap, cur, rfl, _, hg, _⟩
  · simp [Value.ownBlock] at hq
  · have : g = q := Option.some.inj hq
    subst this
    exact ⟨_, _, hg⟩

theorem SP.put {w0 W : World} {cells : CellL} {la lb : List (Bool × Int)} {av bv : Value} (h : SP w0 W cells la lb av bv) (i : Nat) {k : Nat} {p q : Option Addr} {x z : Int} (hi : cells[i]? = some (k, p, x)) (hn : NumIs W (.agg #[.pointer q]) z) : SP w0 (W.setCell ⟨k, 0, none⟩ (.pointer q)) (cells.set i (k, q, z)) la lb av bv := by
  have hz := h.st.blk i hi
  have hx : Ext (fun j => j = k) W (W.setCell ⟨k, 0, none⟩ (.pointer q)) := (Ext.refl (fun j => j = k) W).setCell (p := ⟨k, 0, none⟩) (.inl rfl) _
  have ha : Apart W (fun j => j = k) := by
    rintro j rfl t ⟨cs, fz, e⟩
    rw [hz] at e
    simp only [Option.some.injEq, Obj.cells.injEq] at e
    rw [← e.2.1]
    decide
  have hne : ∀ {v : Value} {n : Nat} {xs : List Value}, W.ownsRow w0.heap.size 47 2 v n xs → ∀ j, v.ownBlock = some j → ¬ j = k := by
    intro v n xs ho j hj e
    subst e
    obtain ⟨cs, fz, e⟩ := own_typ ho hj
    rw [hz] at e
    simp only [Option.some.injEq, Obj.cells.injEq] at e
    exact absurd e.2.1 (by decide)
  obtain ⟨ta, h1⟩ := h.a
  obtain ⟨tb, h2⟩ := h.b
  exact ⟨h.st.put i hi hn, ⟨ta, h1.keep hx ha (hne h1.own)⟩, ⟨tb, h2.keep hx ha (hne h2.own)⟩, h.apart⟩

/-- one more term at the first list -/
theorem SP.pushA {w0 W W1 W' : World} {cells : CellL} {la lb : List (Bool × Int)} {av av' bv : Value} {ta : List (Bool × Option Addr)} {m : Bool} {p : Option Addr} {x : Int} {n : Nat} (h : SP w0 W cells la lb av bv) (hta : TermsOwn W w0.heap.size av la ta) (e : Below W.heap.size W W1) (hn : n = la.length) (hx : NumIs W (.agg #[.pointer p]) x) (hg : W1.grownBy W' av.ownBlock) (ho : W'.ownsRow w0.heap.size 47 2 av' (n + 1) (trow ta ++ [.bool m, .pointer p])) (hnew : NewOr W1 av av') : SP w0 W' cells (la ++ [(m, x)]) lb av' bv := by
  have h1 := h.adv e
  obtain ⟨tb, hb⟩ := h1.b
  have hta1 := hta.below e
  have hx2 : Ext (fun q => av.ownBlock = some q) W1 W' := ⟨hg.os, hg.tape, hg.output, hg.size, fun q hq hn => hg.block q hq fun e => hn e.symm⟩
  refine ⟨h1.st.afar (own_afar hta1.own (by decide)) (own_ge hta1.own) hx2, ⟨_, hta.push e hn (hx.below e) hg ho⟩, ⟨tb, hb.keep hx2 (own_apart hta1.own (by decide)) fun q hq hk => h1.apart q hk hq⟩, fun q hq hk => ?_⟩
  rcases hnew with h2 | ⟨k, h2, h3⟩
  · exact h1.apart q (by rw [← h2]; exact hq) hk
  · have := (hb.own.lt q hk).2
    rw [h2] at hq
    have := Option.some.inj hq
    omega

theorem TermsOwn.get {w : World} {B g n c : Nat} {l : List (Bool × Int)} {ts : List (Bool × Option Addr)} (h : TermsOwn w B (.slice (some ⟨g, 0, none⟩) n c) l ts) {i : Nat} {s : Bool × Int} (hs : l[i]? = some s) : ∃ q, w.cell? ⟨g, i * 2, none⟩ = some (.bool s.1) ∧ w.cell? ⟨g, i * 2 + 1, none⟩ = some (.pointer q) ∧ NumIs w (.agg #[.pointer q]) s.2 := by
  have hi : i < ts.length := by rw [h.len]; exact (List.getElem?_eq_some_iff.1 hs).1
  have ht : ts[i]? = some ts[i] := List.getElem?_eq_getElem hi
  obtain ⟨h1, h2⟩ := h.num i _ s ht hs
  obtain ⟨d0, d1⟩ := trow_at ts i _ ht
  exact ⟨ts[i].2, by rw [← h1]; exact own_cell h.own rfl d0, own_cell h.own rfl d1, h2⟩

/-- the last term of the first list -/
theorem SP.last {w0 W : World} {cells : CellL} {la lb : List (Bool × Int)} {g n c k : Nat} {bv : Value} {m : Bool} {x : Int} (h : SP w0 W cells (la ++ [(m, x)]) lb (.slice (some ⟨g, 0, none⟩) n c) bv) (hk : k = la.length) : ∃ q, W.cell? ⟨g, k * 2, none⟩ = some (.bool m) ∧ W.cell? ⟨g, k * 2 + 1, none⟩ = some (.pointer q) ∧ NumIs W (.agg #[.pointer q]) x := by
  obtain ⟨ts, hts⟩ := h.a
  exact hts.get (i := k) (s := (m, x)) (by rw [hk]; simp)

theorem SP.swap {w0 W : World} {cells : CellL} {la lb : List (Bool × Int)} {av bv : Value} (h : SP w0 W cells la lb av bv) : SP w0 W cells lb la bv av :=
  ⟨h.st, h.b, h.a, fun q hq hk => h.apart q hk hq⟩

/-- one round of NumSums adds a term to the sum -/
theorem sums_step {L : List (Bool × Int)} {m : Bool} {y zv xv pv yv : Int} (hr : shiftR 1 y = (zv, 0)) (hp : pv = if m = true then -zv else zv) (hg : gv (xv + pv) = (yv, 0)) (hx : xv = termsV L) : 0 ≤ y ∧ yv = termsV (L ++ [(m, y)]) := by
  obtain ⟨u, e, h1, h2⟩ := shiftR_ways 1 y
  rw [hr] at h1
  obtain ⟨rfl, rfl⟩ := Prod.mk.inj h1
  rcases h2 with ⟨-, hw, ha, hz⟩ | ⟨h, -⟩ | ⟨h, -⟩
  · have hy : 0 ≤ y := by
      have := hw (false, 0) (by rw [form_1]; simp)
      simpa using this
    refine ⟨hy, ?_⟩
    have hyn : ((y.toNat : Nat) : Int) = y := Int.toNat_of_nonneg hy
    have hz2 : zv = 2 ^ y.toNat := by
      rw [hz, ← hyn, shl_nat, hyn]; simp
    have hgy : yv = xv + pv := by
      by_cases h : Allowed (xv + pv)
      · rw [gv_ok h] at hg
        exact (Prod.mk.inj hg).1.symm
      · rw [gv_no h] at hg
        have := (Prod.mk.inj hg).2
        omega
    have ht : termsV (L ++ [(m, y)]) = termsV L + tv (m, y.toNat) := by
      unfold termsV termsT
      rw [List.map_append, val_append]
      simp [val]
    rw [ht, hgy, hx, hp, hz2]
    unfold tv
    cases m <;> simp
  · omega
  · omega

theorem ex_snoc {α : Type} (p : α → Prop) (l : List α) (a : α) : (∃ t ∈ l ++ [a], p t) ↔ (∃ t ∈ l, p t) ∨ p a := by
  constructor
  · rintro ⟨t, ht, h⟩
    rcases List.mem_append.1 ht with ht | ht
    · exact .inl ⟨t, ht, h⟩
    · obtain rfl := List.mem_singleton.1 ht; exact .inr h
  · rintro (⟨t, ht, h⟩ | h)
    · exact ⟨t, List.mem_append.2 (.inl ht), h⟩
    · exact ⟨a, by simp, h⟩

theorem map_rot {zs wh : List Int} {n r : Nat} (hn : n = wh.length) {g g' : Nat → Int} (hg : g = fun i => wh.getD i 0) (hg' : g' = fun i => wh.getD ((i + r) % n) 0) :
    ((List.range n).map fun i => ofI8 zs (g' i)).Perm ((List.range n).map fun i => ofI8 zs (g i)) := by
  subst hn
  have e1 : ((List.range wh.length).map fun i => ofI8 zs (g i)) = wh.map (ofI8 zs) := by
    apply List.ext_getElem?
    intro i
    by_cases hi : i < wh.length
    · rw [List.getElem?_map, List.getElem?_range hi, List.getElem?_map, List.getElem?_eq_getElem hi, hg]
      simp only [Option.map_some, List.getD_eq_getElem?_getD]
      rw [List.getElem?_eq_getElem hi]; rfl
    · rw [List.getElem?_eq_none (by simp; omega), List.getElem?_eq_none (by simp; omega)]
  have e2 : ((List.range wh.length).map fun i => ofI8 zs (g' i)) = ((List.range wh.length).map fun i => wh.getD ((i + r) % wh.length) 0).map (ofI8 zs) := by
    rw [List.map_map, hg']; rfl
  rw [e1, e2]
  by_cases h0 : 0 < wh.length
  · exact (rotated 0 wh r h0).map _
  · have : wh = [] := List.eq_nil_of_length_eq_zero (by omega)
    subst this
    exact List.Perm.refl _

end Go.Proofs.Ytgchfbfgjanaiaa

namespace Go.Proofs.Ytgchfbfgjanaiaa
open Go.RowKit Sr

/-- what the loop holds of its two lists, of x and of the flags -/
structure SL (W2 W : World) (zs : List Int) (g : Nat → Int) (g' : Nat → Int) (av bv : Value) (kx k : Nat) (ng fn : Bool) : Prop where
  sp : ∃ p xv, SP W2 W [(kx, p, xv)] ((List.range k).map fun i => ofI8 zs (g i)) ((List.range k).map fun i => ofI8 zs (g' i)) av bv ∧ (fn = true → (∀ t ∈ (List.range k).map fun i => ofI8 zs (g i), 0 ≤ t.2) ∧ xv = termsV ((List.range k).map fun i => ofI8 zs (g i)))
  neg : ng = true ↔ ∃ t ∈ (List.range k).map fun i => ofI8 zs (g i), t.2 < 0

set_option maxRecDepth 100000 in
set_option maxHeartbeats 4000000 in
theorem lawSums_any {w : World} {v u : Value} {ops : List (Int × Int × Int × Int)} {wh : List Int} (h : OpsAt w v ops) (hu : I8At w u wh) {n : Int} (hn0 : Is64 n) : Calls Try.prog 11 #[v, u, .int .i64 n] w fun e w' => e = .returned (.bool true) ∧ Below w.heap.size w w' := by
  have hmd := lawMade_any h
  have HM := Sealed.mk hmd; clear hmd h
  obtain ⟨au, cu, rfl, hcu, hr8, hcl⟩ := hu
  obtain ⟨wn, hwn⟩ : ∃ k, k = wh.length := ⟨_, rfl⟩
  rw [← hwn] at hcu ⊢
  have HU := Sealed.mk (And.intro hwn (And.intro hr8 hcl)); clear hwn hr8 hcl
  have hof0 := fun W => Of_one (n := 0) (by unfold Is64; decide) W
  have hof1 := fun W => Of_one (n := 1) (by unfold Is64; decide) W
  have OF := Sealed.mk (And.intro hof0 hof1); clear hof0 hof1
  go_enter Try.func11, Try.ntmps11
  go_upto_region 2 with (go_at_call 40; go_must (refine HM.out.mono ?_; rintro e W2 ⟨av, cv, zs, ps, rfl, hns, hml, hb2⟩; have H2 := Sealed.mk (And.intro hns (And.intro hml hb2)); clear hns hml hb2))
  clear HM
  by_cases h40 : 40 < wn
  · have h40' : (40 : Int) < (wn : Int) := by omega
    have S := Sealed.mk ((St.start w).adv H2.out.2.2)
    go_wp2_with (go_at_call 15; go_must ((with_reducible refine (awake1_any _).mono ?_); rintro e w999 ⟨rfl, hb⟩; replace S := Sealed.mk (S.out.adv hb); clear hb))
    go_ret
    exact ⟨rfl, S.out.below⟩
  · have h40' : ¬ (40 : Int) < (wn : Int) := by omega
    have S := Sealed.mk ((((St.start w).adv H2.out.2.2).na (o := .cells #[] 47)).na (o := .cells #[] 47))
    go_upto_region 7 with (go_at_call 21; go_must ((with_reducible refine (OF.out.1 _).mono ?_); rintro e w3 ⟨p3, rfl, hb, hn⟩; have HB3 := Sealed.mk hb; have HN3 := Sealed.mk hn; clear hb hn))
    obtain ⟨W4, hW4⟩ : ∃ W4, W4 = w3.alloc (.cells #[.pointer p3] 30) := ⟨_, rfl⟩
    rw [← hW4]
    have hpos : 0 < zs.length := by have := H2.out.2.1.1; omega
    have hle : zs.length ≤ 100000 := by have := H2.out.2.1.2.1; omega
    obtain ⟨r, hr, hr2, hrr⟩ := lawRest_pick n (m := 1000) (by decide) (by decide)
    replace hrr : ∀ W, Calls Try.prog 46 #[.int .i64 n, .int .i64 1000] W fun e w' => e = .returned (.int .i64 (r : Int)) ∧ w' = W := hrr
    obtain ⟨g, hg⟩ : ∃ g : Nat → Int, g = fun i => wh.getD i 0 := ⟨_, rfl⟩
    obtain ⟨g', hg'⟩ : ∃ g : Nat → Int, g = fun i => wh.getD ((i + r) % wn) 0 := ⟨_, rfl⟩
    obtain ⟨kx, hkx⟩ : ∃ kx, kx = w3.heap.size := ⟨_, rfl⟩
    have b34 : Below w3.heap.size w3 W4 := by rw [hW4]; exact below_new _ _
    have b24 : Below W2.heap.size W2 W4 := below_chain (below_chain (below_al (below_al (Below.refl _ _))) HB3.out) b34
    have b14 : Below (W2.alloc (.cells #[] 47)).heap.size (W2.alloc (.cells #[] 47)) W4 := below_chain (below_chain (below_al (Below.refl _ _)) HB3.out) b34
    have SL0 : Sealed (SL W2 W4 zs g g' (.slice (some ⟨W2.heap.size, 0, none⟩) 0 0) (.slice (some ⟨W2.heap.size + 1, 0, none⟩) 0 0) kx 0 false true) := ⟨{
      sp := ⟨p3, 0, {
        a := ⟨[], by
          have h1 := own_ext (own_empty (w := W2) (B := W2.heap.size) (e := 47) (size := 2) (Nat.le_refl _) #[] rfl) (Ext.of_below (M := noB) b14) (fun _ _ h => h)
          exact ⟨by simpa [trow] using h1, rfl, fun i t s ht _ => by simp at ht⟩⟩
        b := ⟨[], by
          have h1 := own_ext (own_empty (w := W2.alloc (.cells #[] 47)) (B := W2.heap.size) (e := 47) (size := 2) (by simp) #[] rfl) (Ext.of_below (M := noB) (below_chain HB3.out b34)) (fun _ _ h => h)
          exact ⟨by simpa [trow] using h1, rfl, fun i t s ht _ => by simp at ht⟩⟩
        apart := fun q hq hk => by
          have e1 := Option.some.inj hq
          have e2 := Option.some.inj hk
          simp at e1 e2
          omega
        st := by
          have := ((((St.start W2).na (o := .cells #[] 47)).na (o := .cells #[] 47)).adv HB3.out).new HN3.out
          rw [← hW4, ← hkx] at this
          exact this }, fun _ => ⟨by simp, rfl⟩⟩
      neg := by simp }⟩
    rw [← hkx]
    clear HB3 HN3 hW4 b34 b24 b14 hkx
    obtain ⟨m, hm⟩ : ∃ m, m = zs.length := ⟨_, rfl⟩
    rw [← hm] at hpos hle ⊢
    have HG := Sealed.mk (And.intro hg (And.intro hg' (And.intro hm (And.intro hr2 hrr)))); clear hg hg' hm hr2 hrr
    go_wp2_with fail
    go_loopg [8, 9, 10, 12, 13] wn (fun jj av' bv' ngv fnv iv W => ∃ (k : Nat) (oa : Option Addr) (ca : Nat) (ob : Option Addr) (cb : Nat) (ng fn : Bool), jj = wn - k ∧ k ≤ wn ∧ iv = .int .i64 (k : Int) ∧ av' = .slice oa k ca ∧ bv' = .slice ob k cb ∧ ngv = .bool ng ∧ fnv = .bool fn ∧ Sealed (SL W2 W zs g g' (.slice oa k ca) (.slice ob k cb) kx k ng fn))
    case atStart => exact ⟨0, _, 0, _, 0, false, true, rfl, Nat.zero_le _, rfl, rfl, rfl, rfl, rfl, SL0⟩
    case round =>
      obtain ⟨k, oa, ca, ob, cb, ng, fn, rfl, hk, rfl, rfl, rfl, rfl, rfl, HS⟩ := hrel
      by_cases hkt : k < wn
      · obtain ⟨bu, ou, rfl, hbu, hcu8⟩ := HU.out.2.2 (by intro e; have := HU.out.1; rw [e] at this; simp at this; omega)
        obtain ⟨j2, hj2⟩ : ∃ j, j = (k + r) % wn := ⟨_, rfl⟩
        have hj2n : j2 < wn := by rw [hj2]; exact Nat.mod_lt _ (by omega)
        obtain ⟨z1, hz1⟩ : ∃ z, wh[k]? = some z := ⟨_, List.getElem?_eq_getElem (by have := HU.out.1; omega)⟩
        obtain ⟨z2, hz2⟩ : ∃ z, wh[j2]? = some z := ⟨_, List.getElem?_eq_getElem (by have := HU.out.1; omega)⟩
        have hgz : g k = z1 ∧ g' k = z2 := by
          rw [HG.out.1, HG.out.2.1]
          simp only
          rw [← hj2]
          exact ⟨by rw [List.getD_eq_getElem?_getD, hz1]; rfl, by rw [List.getD_eq_getElem?_getD, hz2]; rfl⟩
        obtain ⟨px, xv, hsp, hfx⟩ := HS.out.sp
        have hb0 := below_chain H2.out.2.2 hsp.st.below
        have c1 : wr.cell? ⟨bu, ou + k, none⟩ = some (.int .i8 z1) := (cell_same (hb0.block _ hbu) _).trans (hcu8 k z1 hz1)
        have c2 : wr.cell? ⟨bu, ou + j2, none⟩ = some (.int .i8 z2) := (cell_same (hb0.block _ hbu) _).trans (hcu8 j2 z2 hz2)
        replace S := Sealed.mk hsp
        have HFX := Sealed.mk hfx; clear hfx hsp
        have hrk : ∀ W, Calls Try.prog 46 #[.int .i64 ((k : Int) + (r : Int)), .int .i64 (wn : Int)] W fun e w' => e = .returned (.int .i64 (j2 : Int)) ∧ w' = W := fun W => by
          have := lawRest_any ((k : Int) + (r : Int)) wn (by omega) (by omega) W
          rw [hj2, show (((k + r) % wn : Nat) : Int) = ((k : Int) + (r : Int)) % (wn : Int) by push_cast; rfl]
          exact this
        have hkr : wrap64 ((k : Int) + (r : Int)) = (k : Int) + (r : Int) := by unfold wrap64; omega
        have hk1 : (k : Int) < (wn : Int) := by omega
        have hj21 : (j2 : Int) < (wn : Int) := by omega
        have hzr := And.intro (HU.out.2.1 z1 (List.mem_of_getElem? hz1)) (HU.out.2.1 z2 (List.mem_of_getElem? hz2))
        have hzw : IntKind.i64.wrap z1 = z1 ∧ IntKind.i64.wrap z2 = z2 := ⟨by rw [IntKind.wrap_i64]; omega, by rw [IntKind.wrap_i64]; omega⟩
        have HZW := Sealed.mk hzw; clear hzw hzr
        have HRK := Sealed.mk (And.intro hrk (And.intro hgz hb0)); clear hrk hgz hj2 hz1 hz2 hb0 hcu8
        go_upto_region 12 with (go_at_call 46; go_must (first
          | ((with_reducible refine (HG.out.2.2.2.2 _).mono ?_); rintro e wq ⟨rfl, rfl⟩)
          | ((with_reducible refine (HRK.out.1 _).mono ?_); rintro e wq ⟨rfl, rfl⟩)))
        have hns := H2.out.1
        obtain ⟨i1, hi1, hi1e, hr1⟩ := lawRest_pick z1 hpos hle
        obtain ⟨i2, hi2, hi2e, hr2⟩ := lawRest_pick z2 hpos hle
        have hr1w : ∀ W, Calls Try.prog 46 #[.int .i64 (IntKind.i64.wrap z1), .int .i64 (m : Int)] W fun e w' => e = .returned (.int .i64 (i1 : Int)) ∧ w' = W := by rw [HZW.out.1]; exact hr1
        have hr2w : ∀ W, Calls Try.prog 46 #[.int .i64 (IntKind.i64.wrap z2), .int .i64 (m : Int)] W fun e w' => e = .returned (.int .i64 (i2 : Int)) ∧ w' = W := by rw [HZW.out.2]; exact hr2
        obtain ⟨bb, oo, cc, p1, y1, e1, hcc, hbb, hy1, hcp1, hn1⟩ := hns.at_.pick (i := i1) (by rw [← HG.out.2.2.1]; exact hi1)
        obtain ⟨bb', oo', cc', p2, y2, e2, -, -, hy2, hcp2, hn2⟩ := hns.at_.pick (i := i2) (by rw [← HG.out.2.2.1]; exact hi2)
        obtain ⟨rfl, -, rfl⟩ := Value.slice.inj e1
        obtain ⟨e2', -, -⟩ := Value.slice.inj e2
        obtain ⟨rfl, rfl⟩ : bb = bb' ∧ oo = oo' := by simpa using e2'
        have hf1 : ofI8 zs (g k) = (decide (z1 < 0), y1) := by
          unfold ofI8
          rw [HRK.out.2.1.1, ← HG.out.2.2.1, ← hi1e, Int.toNat_natCast, List.getD_eq_getElem?_getD, hy1]; rfl
        have hf2 : ofI8 zs (g' k) = (decide (z2 < 0), y2) := by
          unfold ofI8
          rw [HRK.out.2.1.2, ← HG.out.2.2.1, ← hi2e, Int.toNat_natCast, List.getD_eq_getElem?_getD, hy2]; rfl
        rw [← HG.out.2.2.1] at hcc
        have HP := Sealed.mk (And.intro hn1 (And.intro hn2 (And.intro hf1 (And.intro hf2 (And.intro hr1w (And.intro hr2w (And.intro hcp1 hcp2)))))))
        clear hns hi1e hi2e hr1 hr2 hr1w hr2w e1 e2 e2' hy1 hy2 hn1 hn2 hf1 hf2 hcp1 hcp2
        obtain ⟨LA, hLA⟩ : ∃ l, l = (List.range k).map fun i => ofI8 zs (g i) := ⟨_, rfl⟩
        obtain ⟨LB, hLB⟩ : ∃ l, l = (List.range k).map fun i => ofI8 zs (g' i) := ⟨_, rfl⟩
        rw [← hLA, ← hLB] at S
        have HL := Sealed.mk (And.intro hLA (And.intro hLB (And.intro (show k = LA.length by rw [hLA]; simp) (show k = LB.length by rw [hLB]; simp)))); clear hLA hLB
        go_cut [8] from 48 to 67 (fun v wx => ∃ g7 c7, v = .slice (some ⟨g7, 0, none⟩) (k + 1) c7 ∧ SP W2 wx [(kx, px, xv)] (LA ++ [(decide (z1 < 0), y1)]) LB v (.slice ob k cb))
        case first =>
          have hb := S.out.st.below
          obtain ⟨ta, hta⟩ := S.out.a
          have hbb2 := hbb
          have d1 : wq.drew.cell? ⟨bu, ou + k, none⟩ = some (.int .i8 z1) := c1
          have d2 : wq.drew.cell? ⟨bb, oo + i1, none⟩ = some (.pointer p1) := (cell_same (hb.block _ hbb) _).trans HP.out.2.2.2.2.2.2.1
          have d3 : wq.drew.ownsRow W2.heap.size 47 2 (.slice oa k ca) k (trow ta) := by
            have := hta.own
            rw [← HL.out.2.2.1] at this
            exact this
          have d4 : W2.heap.size ≤ wq.drew.heap.size := hb.size
          have D := Sealed.mk (And.intro d3 (And.intro d4 hta)); clear d3 d4 hta hb
          go_region_law
            (first
              | (go_simp; go_at_call 46; go_must ((with_reducible refine (HP.out.2.2.2.2.1 _).mono ?_); rintro e wq2 ⟨rfl, rfl⟩); try go_simp)
              | (go_must (rw [alloc_drew]; refine step_ap_term (u1 := .bool (decide (z1 < 0))) (u2 := .pointer p1) el_Term (.tmp 48) (.tmp 66) rfl rfl rfl D.out.1 rfl rfl rfl rfl (by omega) (by exact D.out.2.1) ?_); go_must (intro g7 c7 w7 ho7 hg7 hn7; have HO7 := Sealed.mk (And.intro ho7 (And.intro hg7 hn7)); clear ho7 hg7 hn7)))
          all_goals
            go_wp2_with fail
            go_meet
            case rel =>
              refine ⟨_, _, rfl, ?_⟩
              have hg := grown_trans (World.grownBy_alloc wq.drew _ _) HO7.out.2.1
              exact S.out.pushA D.out.2.2 (below_drew _) HL.out.2.2.1 (HP.out.1.below S.out.st.below) hg HO7.out.1 (HO7.out.2.2.mono (by simp))
        case rest =>
          obtain ⟨g7, c7, rfl, hS⟩ := hcut
          obtain ⟨W7, hW7⟩ : ∃ W7, W7 = wc := ⟨_, rfl⟩
          rw [← hW7] at hS ⊢
          clear hW7 c1 c2
          replace S := Sealed.mk hS; clear hS
          have HR2 : Sealed (∀ W, Calls Try.prog 46 #[.int .i64 (wrap64 z2), .int .i64 (m : Int)] W fun e w' => e = .returned (.int .i64 (i2 : Int)) ∧ w' = W) := ⟨by rw [show wrap64 z2 = IntKind.i64.wrap z2 by rw [IntKind.wrap_i64]; unfold wrap64; omega]; exact HP.out.2.2.2.2.2.1⟩
          go_upto_region 13 with fail
          go_cut [9] from 68 to 81 (fun v wx => ∃ g8 c8, v = .slice (some ⟨g8, 0, none⟩) (k + 1) c8 ∧ SP W2 wx [(kx, px, xv)] (LA ++ [(decide (z1 < 0), y1)]) (LB ++ [(decide (z2 < 0), y2)]) (.slice (some ⟨g7, 0, none⟩) (k + 1) c7) v)
          case first =>
            have hb := S.out.st.below
            obtain ⟨tb, htb⟩ := S.out.b
            have d2 : W7.cell? ⟨bb, oo + i2, none⟩ = some (.pointer p2) := (cell_same (hb.block _ hbb) _).trans HP.out.2.2.2.2.2.2.2
            have d3 : W7.ownsRow W2.heap.size 47 2 (.slice ob k cb) k (trow tb) := by
              have := htb.own
              rw [← HL.out.2.2.2] at this
              exact this
            have d4 : W2.heap.size ≤ W7.heap.size := hb.size
            have D := Sealed.mk (And.intro d3 (And.intro d4 htb)); clear d3 d4 htb hb
            go_wp2_with (first
              | (go_at_call 46; go_must (first
                  | ((with_reducible refine (HP.out.2.2.2.2.2.1 _).mono ?_); rintro e wq2 ⟨rfl, rfl⟩)
                  | ((with_reducible refine (HR2.out _).mono ?_); rintro e wq2 ⟨rfl, rfl⟩)))
              | (at_builtin; go_must (refine ap_litp (m := 1) el_Term (.tmp 68) (.tmp 80) rfl rfl rfl D.out.1 rfl rfl rfl (by omega) (by simp [Value.oneCell']) (by omega) D.out.2.1 ?_); go_must (intro g8 c8 w8 ho8 hg8 hn8; have HO8 := Sealed.mk (And.intro ho8 (And.intro hg8 hn8)); clear ho8 hg8 hn8)))
            all_goals
              go_meet
              case rel =>
                refine ⟨_, _, rfl, ?_⟩
                exact (S.out.swap.pushA D.out.2.2 (Below.refl _ _) HL.out.2.2.2 (HP.out.2.1.below S.out.st.below) HO8.out.2.1 HO8.out.1 HO8.out.2.2).swap
          case rest =>
            obtain ⟨g8, c8, rfl, hS⟩ := hcut
            obtain ⟨W8, hW8⟩ : ∃ W8, W8 = wc := ⟨_, rfl⟩
            rw [← hW8] at hS ⊢
            clear hW8
            replace S := Sealed.mk hS; clear hS
            go_upto_region 14 with fail
            obtain ⟨q1, lb0, lb1, hq1⟩ := S.out.last HL.out.2.2.1
            have HQ := Sealed.mk hq1; clear hq1
            have hsn : ∀ W, Below W8.heap.size W8 W → Calls Try.prog 42 #[.agg #[.pointer q1]] W fun e w' => e = .returned (.int .i64 (sg y1)) ∧ Below W.heap.size W w' := fun W hb => Sign_any (HQ.out.below hb)
            have HSN := Sealed.mk hsn; clear hsn
            go_cut [10] from 82 to 91 (fun v wx => v = .bool (ng || decide (y1 < 0)) ∧ SP W2 wx [(kx, px, xv)] (LA ++ [(decide (z1 < 0), y1)]) (LB ++ [(decide (z2 < 0), y2)]) (.slice (some ⟨g7, 0, none⟩) (k + 1) c7) (.slice (some ⟨g8, 0, none⟩) (k + 1) c8))
            case first =>
              rcases ng with _ | _
              all_goals
                go_wp2_with (go_at_call 42; go_must ((with_reducible refine (HSN.out _ (Below.refl _ _)).mono ?_); rintro e w9 ⟨rfl, hb⟩; replace S := Sealed.mk (S.out.adv hb); clear hb))
                go_meet
                case rel =>
                  refine ⟨?_, S.out⟩
                  first
                    | rfl
                    | (simp [sg_lt_zero])
            case rest =>
              obtain ⟨rfl, hS⟩ := hcut
              obtain ⟨W9, hW9⟩ : ∃ W9, W9 = wc := ⟨_, rfl⟩
              rw [← hW9] at hS ⊢
              clear hW9 lb0 lb1 HQ HSN q1
              replace S := Sealed.mk hS; clear hS
              go_upto_region 15 with fail
              obtain ⟨q1, lb0, lb1, hq1⟩ := S.out.last HL.out.2.2.1
              obtain ⟨zv, er, hsr⟩ : ∃ zv er, shiftR 1 y1 = (zv, er) := ⟨_, _, rfl⟩
              have hks : ∀ W, Below W9.heap.size W9 W → W.cell? ⟨g7, k * 2 + 1, none⟩ = some (.pointer q1) ∧ NumIs W (.agg #[.pointer q1]) y1 := fun W hb => ⟨(cell_same (hb.block _ S.out.lt) _).trans lb1, hq1.below hb⟩
              have HKS := Sealed.mk (And.intro hks hsr); clear hks hsr hq1 lb0 lb1
              go_cut [15, 16] from 92 to 101 (fun vn ve wx => ∃ kp pp, vn = .pointer (some ⟨kp, 0, none⟩) ∧ ve = .int .i64 er ∧ St W9 wx [] [(kp, pp, zv)])
              case first =>
                have S1 := Sealed.mk (St.start W9)
                have hki : (k : Int) < (k : Int) + 1 := by omega
                have hki0 : (0 : Int) ≤ (k : Int) := by omega
                go_region_held3 (fun W => W.cell? ⟨g7, k * 2 + 1, none⟩ = some (.pointer q1))
                  (first
                    | exact (HKS.out.1 _ S1.out.below).1
                    | exact (HKS.out.1 _ S1.out.dr.below).1
                    | exact (HKS.out.1 _ (S1.out.new (NumIs.zero _)).dr.below).1
                    | exact (HKS.out.1 _ (S1.out.new (NumIs.zero _)).below).1
                    | exact (HKS.out.1 _ (S1.out.put 0 rfl (S1.out.num 0 rfl)).below).1
                    | exact (HKS.out.1 _ (S1.out.new (S1.out.num 0 rfl)).below).1
                    | fail)
                  (first
                    | (go_at_call 21; go_must ((with_reducible refine (OF.out.2 _).mono ?_); rintro e w10 ⟨p10, rfl, hb, hn⟩; first | (replace S1 := Sealed.mk (S1.out.dr.res hb hn)) | (replace S1 := Sealed.mk ((S1.out.new (NumIs.zero _)).dr.res hb hn)); clear hb hn))
                    | (go_at_call 25; go_must (first
                        | ((with_reducible refine (Shift_two HKS.out.2 (S1.out.num 0 rfl) (HKS.out.1 _ S1.out.below).2).mono ?_); rintro e w11 ⟨p11, rfl, hb, hn⟩; replace S1 := Sealed.mk (S1.out.res hb hn); try (have zc := S1.out.cell 0 rfl; have zf := S1.out.frozen 0 rfl); clear hb hn)
                        | ((with_reducible refine (Shift_two HKS.out.2 ((S1.out.new (NumIs.zero _)).num 0 rfl) (HKS.out.1 _ (S1.out.new (NumIs.zero _)).below).2).mono ?_); rintro e w11 ⟨p11, rfl, hb, hn⟩; replace S1 := Sealed.mk ((S1.out.new (NumIs.zero _)).res hb hn); have zc := S1.out.cell 0 rfl; have zf := S1.out.frozen 0 rfl; clear hb hn))))
                all_goals
                  go_wp2_with fail
                  go_meet
                  case rel =>
                    first
                      | exact ⟨_, _, rfl, rfl, (S1.out.new (S1.out.num 0 rfl)).clr⟩
                      | exact ⟨_, _, rfl, rfl, (S1.out.put 0 rfl (S1.out.num 0 rfl)).clr⟩
              case rest =>
                obtain ⟨kp, pp, rfl, rfl, hS⟩ := hcut
                obtain ⟨W10, hW10⟩ : ∃ W10, W10 = wc := ⟨_, rfl⟩
                rw [← hW10] at hS ⊢
                clear hW10
                replace S := Sealed.mk (S.out.make hS); clear hS
                go_upto_region 16 with fail
                obtain ⟨q2, lb0, -, -⟩ := S.out.last HL.out.2.2.1
                have hki : (k : Int) < (k : Int) + 1 := by omega
                have hki0 : (0 : Int) ≤ (k : Int) := by omega
                obtain ⟨pv, hpv⟩ : ∃ z : Int, z = if z1 < 0 then -zv else zv := ⟨_, rfl⟩
                have HPV := Sealed.mk hpv; clear hpv
                go_upto_if 106 with fail
                go_cut [15] from 106 to 108 (fun v wx => v = .pointer (some ⟨kp, 0, none⟩) ∧ ∃ p', SP W2 wx [(kp, p', pv), (kx, px, xv)] (LA ++ [(decide (z1 < 0), y1)]) (LB ++ [(decide (z2 < 0), y2)]) (.slice (some ⟨g7, 0, none⟩) (k + 1) c7) (.slice (some ⟨g8, 0, none⟩) (k + 1) c8))
                case first =>
                  by_cases hz : z1 < 0
                  · have hpe : pv = -zv := by rw [HPV.out, if_pos hz]
                    have HZ := Sealed.mk (And.intro trivial hpe); clear hpe
                    have ld := S.out.st.cell 0 rfl
                    go_wp2_with (go_at_call 39; go_must ((with_reducible refine (Neg_one (S.out.st.cnum 0 rfl)).mono ?_); rintro e w12 ⟨p12, rfl, hb, hn⟩; replace S := Sealed.mk (S.out.adv hb); have HN := Sealed.mk hn; have zc := S.out.st.cell 0 rfl; have zf := S.out.st.frozen 0 rfl; clear hb hn))
                    go_meet
                    case rel => exact ⟨rfl, _, by rw [HZ.out.2]; exact S.out.put 0 rfl HN.out⟩
                  · have hpe : pv = zv := by rw [HPV.out, if_neg hz]
                    have HZ := Sealed.mk (And.intro trivial hpe); clear hpe
                    go_wp2_with fail
                    go_meet
                    case rel => exact ⟨rfl, _, by rw [HZ.out.2]; exact S.out⟩
                case rest =>
                  obtain ⟨rfl, p', hS⟩ := hcut
                  obtain ⟨W11, hW11⟩ : ∃ W11, W11 = wc := ⟨_, rfl⟩
                  rw [← hW11] at hS ⊢
                  clear hW11 lb0
                  replace S := Sealed.mk hS; clear hS
                  go_upto_region 18 with fail
                  obtain ⟨yv, er2, hyr⟩ : ∃ yv er2, gv (xv + pv) = (yv, er2) := ⟨_, _, rfl⟩
                  have HY := Sealed.mk hyr; clear hyr
                  have ld0 := S.out.st.cell 0 rfl
                  have ld1 := S.out.st.cell 1 rfl
                  go_upto_region 19 with (go_at_call 32; go_must ((with_reducible refine (Add_two HY.out (S.out.st.cnum 1 rfl) (S.out.st.cnum 0 rfl)).mono ?_); rintro e w13 ⟨p13, rfl, hb, hn⟩; replace S := Sealed.mk (S.out.adv hb); have H13 := Sealed.mk hn; clear hb hn))
                  clear ld0 ld1
                  have S0 := S.out.new H13.out
                  obtain ⟨W12, hW12⟩ : ∃ W12, W12 = w13.alloc (.cells #[.pointer p13] 30) := ⟨_, rfl⟩
                  rw [← hW12] at S0 ⊢
                  replace S := Sealed.mk S0; clear S0 hW12 H13
                  obtain ⟨ky, hky⟩ : ∃ ky, ky = w13.heap.size := ⟨_, rfl⟩
                  rw [← hky] at S ⊢
                  clear hky
                  obtain ⟨q1, hq1⟩ : ∃ q : Bool, q = (er == 0) := ⟨_, rfl⟩
                  obtain ⟨q2, hq2⟩ : ∃ q : Bool, q = (er2 == 0) := ⟨_, rfl⟩
                  obtain ⟨f2, hf2⟩ : ∃ f2 : Bool, f2 = (fn && q1 && q2) := ⟨_, rfl⟩
                  have HF2 := Sealed.mk (And.intro hf2 (And.intro hq1 hq2)); clear hf2
                  go_cut [12] from 115 to 123 (fun v wx => v = .bool f2 ∧ wx = W12)
                  case first =>
                    have b2 := hq2.symm
                    clear hq2
                    rcases fn with _ | _
                    · have e1 : f2 = false := by rw [HF2.out.1]; rfl
                      have E1 := Sealed.mk e1; clear e1 hq1
                      go_wp2_with fail
                      go_meet
                      case rel => exact ⟨by rw [E1.out], rfl⟩
                    · rcases q1 with _ | _
                      · have e1 : f2 = false := by rw [HF2.out.1]; rfl
                        have E1 := Sealed.mk e1; clear e1
                        have b1 := hq1.symm; clear hq1
                        go_wp2_with fail
                        go_meet
                        case rel => exact ⟨by rw [E1.out], rfl⟩
                      · have e1 : f2 = q2 := by rw [HF2.out.1]; simp
                        have E1 := Sealed.mk e1; clear e1
                        have b1 := hq1.symm; clear hq1
                        go_wp2_with fail
                        go_meet
                        case rel => exact ⟨by rw [E1.out], rfl⟩
                  case rest =>
                    clear hq1 hq2
                    obtain ⟨rfl, hwc⟩ := hcut
                    subst hwc
                    have ld0 := S.out.st.cell 0 rfl
                    have ld1 := S.out.st.cell 2 rfl
                    have zf := S.out.st.frozen 2 rfl
                    go_wp2_with fail
                    go_roundg (wn - (k + 1))
                    case measure => omega
                    case rel =>
                      have S2 := S.out.put 2 rfl (S.out.st.cnum 0 rfl)
                      refine ⟨k + 1, _, c7, _, c8, ng || decide (y1 < 0), f2, rfl, by omega, by push_cast; rfl, by push_cast; rfl, by push_cast; rfl, rfl, rfl, ⟨?_⟩⟩
                      have eA : ((List.range (k + 1)).map fun i => ofI8 zs (g i)) = LA ++ [(decide (z1 < 0), y1)] := by rw [List.range_succ, List.map_append, ← HL.out.1]; simp only [List.map_cons, List.map_nil]; rw [HP.out.2.2.1]
                      have eB : ((List.range (k + 1)).map fun i => ofI8 zs (g' i)) = LB ++ [(decide (z2 < 0), y2)] := by rw [List.range_succ, List.map_append, ← HL.out.2.1]; simp only [List.map_cons, List.map_nil]; rw [HP.out.2.2.2.1]
                      refine ⟨?_, ?_⟩
                      · rw [eA, eB]
                        refine ⟨p13, yv, S2.drop (by simp) (by simp), fun hf => ?_⟩
                        rw [HF2.out.1, HF2.out.2.1, HF2.out.2.2] at hf
                        simp only [Bool.and_eq_true, beq_iff_eq] at hf
                        obtain ⟨⟨h1, rfl⟩, rfl⟩ := hf
                        obtain ⟨h2, h3⟩ := HFX.out h1
                        rw [← HL.out.1] at h2 h3
                        obtain ⟨h4, h5⟩ := sums_step (m := decide (z1 < 0)) HKS.out.2 (by rw [HPV.out]; by_cases hz : z1 < 0 <;> simp [hz]) HY.out h3
                        refine ⟨fun t ht => ?_, h5⟩
                        rcases List.mem_append.1 ht with ht | ht
                        · exact h2 t ht
                        · obtain rfl := List.mem_singleton.1 ht; exact h4
                      · rw [eA, ex_snoc, Bool.or_eq_true, decide_eq_true_eq]
                        have := HS.out.neg
                        rw [← HL.out.1] at this
                        rw [this]
      · obtain rfl : wn = k := by omega
        clear S SL0
        obtain ⟨px, xv, hsp, hfx⟩ := HS.out.sp
        have hng := HS.out.neg
        have hb0 := below_chain H2.out.2.2 hsp.st.below
        obtain ⟨LA, hLA⟩ : ∃ l, l = (List.range wn).map fun i => ofI8 zs (g i) := ⟨_, rfl⟩
        obtain ⟨LB, hLB⟩ : ∃ l, l = (List.range wn).map fun i => ofI8 zs (g' i) := ⟨_, rfl⟩
        have hlA : LA.length = wn := by rw [hLA]; simp
        have hlB : LB.length = wn := by rw [hLB]; simp
        have hperm : LB.Perm LA := by rw [hLA, hLB]; exact map_rot HU.out.1 HG.out.1 HG.out.2.1
        rw [← hLA] at hsp hfx hng
        rw [← hLB] at hsp
        clear hLA hLB
        obtain ⟨sv, er, hsv⟩ : ∃ sv er, sumR LA = (sv, er) := ⟨_, _, rfl⟩
        have hsv2 : sumR LB = (sv, er) := by rw [sumR_perm hperm, hsv]
        have hal : Allowed xv := (hsp.st.cnum 0 rfl).1
        have hn1 : ng = true → er = 1 := fun h => by
          have h1 := hng.1 h
          unfold sumR at hsv
          rw [if_pos h1] at hsv
          exact (Prod.mk.inj hsv).2.symm
        have hn2 : fn = true → er = 0 ∧ sv = xv := fun h => by
          obtain ⟨h1, h2⟩ := hfx h
          unfold sumR at hsv
          rw [if_neg (by rintro ⟨t, ht, h⟩; have := h1 t ht; omega), if_neg (by omega), ← h2, gv_ok hal] at hsv
          exact ⟨(Prod.mk.inj hsv).2.symm, (Prod.mk.inj hsv).1.symm⟩
        have htA : ∀ {W : World} {cs : CellL}, SP W2 W cs LA LB (.slice oa wn ca) (.slice ob wn cb) → TermsAt W (.slice oa wn ca) LA ∧ TermsAt W (.slice ob wn cb) LB := fun h => by
          obtain ⟨⟨ta, ha⟩, ⟨tb, hb⟩⟩ := And.intro h.a h.b
          exact ⟨ha.at_ (by omega), hb.at_ (by omega)⟩
        have HTA := Sealed.mk @htA; clear htA
        have HE := Sealed.mk (And.intro hsv (And.intro hsv2 (And.intro hn1 hn2))); clear hsv hsv2 hn1 hn2 hfx hng hal hperm hlA hlB
        have S := Sealed.mk hsp; clear hsp HS
        obtain ⟨n1, hn1⟩ : ∃ n1, n1 = wn := ⟨_, rfl⟩
        go_upto_region 22 with (go_at_call 27; go_must ((with_reducible refine (Sum_two HE.out.1 (HTA.out S.out).1).mono ?_); rintro e w14 ⟨p14, rfl, hb, hn⟩; replace S := Sealed.mk (S.out.adv hb); have H14 := Sealed.mk hn; clear hb hn))
        have S0 := S.out.new H14.out
        obtain ⟨W15, hW15⟩ : ∃ W15, W15 = w14.alloc (.cells #[.pointer p14] 30) := ⟨_, rfl⟩
        obtain ⟨k14, hk14⟩ : ∃ k14, k14 = w14.heap.size := ⟨_, rfl⟩
        rw [← hW15, ← hk14] at S0 ⊢
        replace S := Sealed.mk S0; clear S0 hW15 H14 hk14
        go_upto_region 23 with (go_at_call 27; go_must ((with_reducible refine (Sum_two HE.out.2.1 (HTA.out S.out).2).mono ?_); rintro e w16 ⟨p16, rfl, hb, hn⟩; replace S := Sealed.mk (S.out.adv hb); have H16 := Sealed.mk hn; clear hb hn))
        have S0 := S.out.new H16.out
        obtain ⟨W17, hW17⟩ : ∃ W17, W17 = w16.alloc (.cells #[.pointer p16] 30) := ⟨_, rfl⟩
        obtain ⟨k16, hk16⟩ : ∃ k16, k16 = w16.heap.size := ⟨_, rfl⟩
        rw [← hW17, ← hk16] at S0 ⊢
        have S1 := Sealed.mk ((St.start w).adv hb0)
        replace S := Sealed.mk S0.st; clear S0 hW17 H16 hk16
        have HB0 := Sealed.mk hb0; clear hb0 HTA
        rcases ng with _ | _
        · rcases fn with _ | _
          · have ld0 := S.out.cell 0 rfl
            have ld1 := S.out.cell 1 rfl
            go_wp2_with (first
              | (go_at_call 20; go_must ((with_reducible refine (lawSame_any (S.out.cnum 1 rfl) (S.out.cnum 0 rfl)).mono ?_); rintro e wD ⟨rfl, hb⟩; replace S := Sealed.mk (S.out.adv hb); clear hb))
              | (go_at_call 15; go_must ((with_reducible refine (awake1_any _).mono ?_); rintro e w999 ⟨rfl, hb⟩; replace S := Sealed.mk (S.out.adv hb); clear hb)))
            go_ret
            exact ⟨rfl, below_chain H2.out.2.2 S.out.below⟩
          · have hq := HE.out.2.2.2 rfl
            obtain ⟨rfl, rfl⟩ := hq
            have ld0 := S.out.cell 0 rfl
            have ld1 := S.out.cell 1 rfl
            have ld2 := S.out.cell 2 rfl
            go_wp2_with (first
              | (go_at_call 20; go_must (first
                  | ((with_reducible refine (lawSame_any (S.out.cnum 1 rfl) (S.out.cnum 0 rfl)).mono ?_); rintro e wD ⟨rfl, hb⟩; replace S := Sealed.mk (S.out.adv hb); clear hb; have lx1 := S.out.cell 1 rfl; have lx2 := S.out.cell 2 rfl)
                  | ((with_reducible refine (lawSame_any (S.out.cnum 1 rfl) (S.out.cnum 2 rfl)).mono ?_); rintro e wD2 ⟨rfl, hb⟩; replace S := Sealed.mk (S.out.adv hb); clear hb)))
              | (go_at_call 15; go_must ((with_reducible refine (awake1_any _).mono ?_); rintro e w999 ⟨rfl, hb⟩; replace S := Sealed.mk (S.out.adv hb); clear hb)))
            go_ret
            exact ⟨rfl, below_chain H2.out.2.2 S.out.below⟩
        · have hq := HE.out.2.2.1 rfl
          subst hq
          go_wp2_with (go_at_call 15; go_must ((with_reducible refine (awake1_any _).mono ?_); rintro e w999 ⟨rfl, hb⟩; replace S := Sealed.mk (S.out.adv hb); clear hb))
          go_ret
          exact ⟨rfl, below_chain H2.out.2.2 S.out.below⟩

end Go.Proofs.Ytgchfbfgjanaiaa

namespace Go.Proofs.Ytgchfbfgjanaiaa.RowK
open Go.ChangeShapes Go.WideShapes Go.ChangeAt Go.RowKit Sr
set_option linter.unusedVariables false

section
variable {H : Type} {enc : TypeId × Value → H} {W : World} {base : Nat} {sp : Nat → Bool} {held : Bool}

theorem cells_i8 : Try.prog.cellsOf 79 = 1 := by kernel_rfl

theorem wf8 {n : Int} (h : (Lit.int .i8 n).wf = true) : -128 ≤ n ∧ n ≤ 127 := by
  have := h
  simp [Lit.wf, go_sem] at this
  exact this
theorem wfu8 {n : Int} (h : (Lit.int .u8 n).wf = true) : 0 ≤ n ∧ n ≤ 255 := by
  have := h
  simp [Lit.wf, go_sem] at this
  exact this

theorem open_i8s {v : Value} {d : DataW H} {p : List MemPlace} (hv : ∃ a n c, v = .slice a n c) (h : DataW.Trod enc Try.prog W 0 (fun _ => true) true 54 v d p) : ∃ l, I8At W v l := by
  obtain ⟨a, n, c, rfl⟩ := hv
  obtain ⟨fuel, h⟩ := h
  rcases Go.Deep.open_slice Try.underlying54 h with ⟨e, -⟩ | ⟨a', len, cap, m, k, D, Pl, e, -, hl, hm, hmc, -, hel⟩
  · simp [Value.cells] at e
    obtain ⟨rfl, rfl, rfl⟩ := e
    exact ⟨[], none, 0, rfl, Nat.le_refl _, fun t ht => by simp at ht, fun hne => absurd rfl hne⟩
  · simp [Value.cells] at e
    obtain ⟨rfl, rfl, rfl⟩ := e
    simp only [if_true] at hmc
    subst hmc
    rw [cells_i8] at hel
    have key : ∀ i, i < n → ∃ t : Int, (-128 ≤ t ∧ t ≤ 127) ∧ a'.spot = none ∧ a'.block < W.heap.size ∧ W.cell? ⟨a'.block, a'.off + i, none⟩ = some (.int .i8 t) := fun i hi => by
      obtain ⟨cs, h1, h2⟩ := hel i (by omega)
      obtain ⟨z, rfl, -, hw⟩ := DataW.trod_int Try.underlying79 h2
      obtain ⟨-, -, hc⟩ := World.cells?_some h1
      have c0 := hc 0 (by decide)
      have hs0 : a'.spot = none := by
        obtain ⟨cs0, g1, g2⟩ := hel 0 (by omega)
        obtain ⟨z0, rfl, -, -⟩ := DataW.trod_int Try.underlying79 g2
        obtain ⟨-, -, gc⟩ := World.cells?_some g1
        exact World.cell?_spot (by simpa [Addr.add] using gc 0 (by decide))
      obtain ⟨ab, ao, as_⟩ := a'
      simp only at hs0
      subst hs0
      rw [add_off] at c0
      rw [add_off] at c0
      have c0' : W.cell? ⟨ab, ao + i, none⟩ = some (.int .i8 z) := by simpa using c0
      exact ⟨z, wf8 hw, rfl, lt_of_cell c0', c0'⟩
    obtain ⟨f, hf⟩ := Go.Deep.choose_lt key
    refine ⟨(List.range n).map f, some a', _, by simp; rfl, by simpa using hl, fun t ht => ?_, fun hne => ?_⟩
    · obtain ⟨i, hi, rfl⟩ := List.mem_map.1 ht
      exact (hf i (List.mem_range.1 hi)).1
    · have hn : 0 < n := by
        rcases Nat.eq_zero_or_pos n with h0 | h0
        · subst h0; exact absurd rfl hne
        · exact h0
      obtain ⟨ab, ao, as_⟩ := a'
      obtain ⟨-, hs, hb, -⟩ := hf 0 hn
      simp only at hs
      subst hs
      refine ⟨ab, ao, rfl, hb, fun i t ht => ?_⟩
      have hi : i < n := by
        have := (List.getElem?_eq_some_iff.1 ht).1
        simpa using this
      rw [List.getElem?_map, List.getElem?_range hi] at ht
      simp at ht
      subst ht
      exact (hf i hi).2.2.2

set_option maxRecDepth 100000 in
theorem open_u8 {r : Reach} {b : Nat} {v : Value} {d : DataW H} {p : List MemPlace} (hv : Value.okWide Try.prog W r b 5 v) (h : DataW.Trod enc Try.prog W 0 (fun _ => true) true 5 v d p) :
    ∃ n : Nat, v = .int .u8 (n : Int) ∧ n ≤ 255 := by
  obtain ⟨n, rfl⟩ := okWide_int Try.underlying5 hv
  obtain ⟨fuel, h⟩ := h
  obtain ⟨n', e, -, hw⟩ := DataW.trod_int Try.underlying5 h
  obtain rfl : n = n' := by simpa [Value.cells] using e
  obtain ⟨h1, h2⟩ := wfu8 hw
  exact ⟨n.toNat, by rw [Int.toNat_of_nonneg h1], by omega⟩

end

end Go.Proofs.Ytgchfbfgjanaiaa.RowK
