/-
  shifts of numbers: plain laws
  powers of two: plain laws; two numbers out of those that are made
  numbers stay while other memory of the call's own is written
  sandreckonerlaw01.NumOwn: the walk
-/
import Derived.Test.YtgchfbfgjanaiaaK02
import Derived.Test.YtgchfbfgjanaiaaJ35
import Derived.Test.YtgchfbfgjanaiaaK01
import Derived.Deep.CutRange
import Derived.StillTailTactics
set_option linter.unusedSimpArgs false
set_option linter.unusedVariables false
namespace Go.Proofs.Ytgchfbfgjanaiaa
open Go.RowKit Sr

theorem shl_zero (y : Int) : shl 0 y = 0 := by unfold shl shlL; rw [form_zero]; rfl

theorem whole_shl {x y z : Int} (h : Whole x y) : Whole (shl x y) z ↔ Whole x (y + z) := by
  constructor
  · intro k t ht
    have h1 := h t ht
    have h2 := k (t.1, ((t.2 : Int) + y).toNat) (by rw [form_shl h]; exact List.mem_map.2 ⟨t, ht, rfl⟩)
    simp only at h2
    omega
  · intro k t ht
    rw [form_shl h] at ht
    obtain ⟨s, hs, rfl⟩ := List.mem_map.1 ht
    have h1 := h s hs
    have h2 := k s hs
    simp only
    omega

theorem shl_shl {x y z : Int} (h : Whole x y) (k : Whole x (y + z)) : shl (shl x y) z = shl x (y + z) := by
  unfold shl
  congr 1
  show ((form (shl x y)).map _) = _
  rw [form_shl h]
  unfold shlL
  rw [List.map_map]
  apply List.map_congr_left
  intro t ht
  have h1 := h t ht
  have h2 := k t ht
  simp only [Function.comp_def]
  rw [show ((((t.2 : Int) + y).toNat : Nat) : Int) + z = (t.2 : Int) + (y + z) by omega]

theorem shl_none (x : Int) : shl x 0 = x := by have := shl_nat x 0; simpa using this

/-- back again -/
theorem shl_again {x y : Int} (h : Whole x y) : Whole (shl x y) (-y) ∧ shl (shl x y) (-y) = x := by
  have hk : Whole x (y + -y) := fun t ht => by omega
  refine ⟨(whole_shl h).2 hk, ?_⟩
  rw [shl_shl h hk, show y + -y = (0 : Int) by omega, shl_none]

/-- of a sum -/
theorem shl_sum {x z y : Int} (hx : Whole x y) (hz : Whole z y) : Whole (x + z) y ∧ shl (x + z) y = shl x y + shl z y := by
  rcases Int.lt_or_le y 0 with h | h
  · obtain ⟨n, rfl⟩ : ∃ n : Nat, y = -(n : Int) := ⟨y.natAbs, by omega⟩
    have e1 := shl_back hx
    have e2 := shl_back hz
    have e3 : x + z = 2 ^ n * (shl x (-(n : Int)) + shl z (-(n : Int))) := by rw [Int.mul_add, e1, e2]
    refine ⟨whole_iff.2 ⟨_, e3⟩, ?_⟩
    rw [e3, shl_div]
  · obtain ⟨n, rfl⟩ : ∃ n : Nat, y = (n : Int) := ⟨y.natAbs, by omega⟩
    refine ⟨whole_nat _ _, ?_⟩
    rw [shl_nat, shl_nat, shl_nat, Int.mul_add]

theorem wl_pow2 (n : Nat) : wl (2 ^ n) = 1 := by unfold wl; rw [form_pow2]; rfl

theorem shl_one (n : Nat) : shl 1 n = 2 ^ n := by rw [shl_nat, Int.mul_one]

theorem shiftR_nat (x : Int) (n : Nat) : shiftR x n = gv (2 ^ n * x) := by unfold shiftR; rw [if_pos (whole_nat x n), shl_nat]

/-- a shift to the left is a product -/
theorem mulR_pow {x : Int} (hx : Allowed x) (n : Nat) : mulR x (2 ^ n) = shiftR x n := by
  have := hx.1
  unfold mulR
  rw [wl_pow2, Nat.mul_one, if_pos (by unfold wl; omega), shiftR_nat, Int.mul_comm]

theorem shiftR_ways (x y : Int) : ∃ u e, shiftR x y = (u, e) ∧ ((e = 0 ∧ Whole x y ∧ Allowed (shl x y) ∧ u = shl x y) ∨ (e = 5 ∧ Whole x y ∧ u = 0) ∨ (e = 4 ∧ ¬ Whole x y ∧ u = 0)) := by
  unfold shiftR
  by_cases h : Whole x y
  · rw [if_pos h]
    by_cases k : Allowed (shl x y)
    · exact ⟨_, 0, gv_ok k, .inl ⟨rfl, h, k, rfl⟩⟩
    · exact ⟨0, 5, gv_no k, .inr (.inl ⟨rfl, h, rfl⟩)⟩
  · rw [if_neg h]; exact ⟨0, 4, rfl, .inr (.inr ⟨rfl, h, rfl⟩)⟩

theorem shiftR_ok {x y : Int} (h : Whole x y) (k : Allowed (shl x y)) : shiftR x y = (shl x y, 0) := by unfold shiftR; rw [if_pos h, gv_ok k]

/-- the least term decides -/
theorem whole_last {x y : Int} {t : T} (h : (form x)[wl x - 1]? = some t) : Whole x y ↔ 0 ≤ (t.2 : Int) + y := by
  constructor
  · intro k; exact k t (List.mem_of_getElem? h)
  · intro k s hs
    obtain ⟨n, hu⟩ := form_form x
    have hp : ∀ (l : List T) (n : Nat), Under n l → ∀ (i j : Nat) (a b : T), i ≤ j → l[i]? = some a → l[j]? = some b → b.2 ≤ a.2 := by
      intro l
      induction l with
      | nil => intro n _ i j a b _ ha; simp at ha
      | cons c l ih =>
        intro n hu i j a b hij ha hb
        cases i with
        | zero =>
          simp at ha; subst ha
          have := under_mem (c :: l) (c.2 + 1) ⟨by omega, hu.2⟩ b (List.mem_of_getElem? hb)
          omega
        | succ i =>
          cases j with
          | zero => omega
          | succ j => exact ih _ hu.2.1 i j a b (by omega) (by simpa using ha) (by simpa using hb)
    obtain ⟨i, hi⟩ := List.getElem?_of_mem hs
    have hil := (List.getElem?_eq_some_iff.1 hi).1
    have := hp _ _ hu i (wl x - 1) s t (by unfold wl; omega) hi h
    omega

theorem whole_zero (y : Int) : Whole 0 y := fun t ht => by rw [form_zero] at ht; simp at ht

end Go.Proofs.Ytgchfbfgjanaiaa

namespace Go.Proofs.Ytgchfbfgjanaiaa
open Go.RowKit Sr

theorem natAbs_mod {x : Int} (h : Mod x) : Mod (x.natAbs : Int) := by
  rcases Int.natAbs_eq x with e | e
  · rw [← e]; exact h
  · have e2 : ((x.natAbs : Nat) : Int) = -x := by omega
    rw [e2]
    refine ⟨allowed_neg h.1, by rw [wl_neg]; exact h.2.1, ?_⟩
    have := h.2.2
    unfold weight at this ⊢
    rw [plist_neg]; exact this

theorem pow_ways {n : Nat} (h : Mod (n : Int)) : (gv (2 ^ n) = (2 ^ n, 0) ∧ Allowed (2 ^ n) ∧ height (2 ^ n) = height (n : Int) + 1 ∧ height (n : Int) ≤ 99) ∨ (gv (2 ^ n) = (0, 5) ∧ height (n : Int) = 100) := by
  have hh := h.1.2.2.2
  by_cases k : height (n : Int) + 1 ≤ 100
  · obtain ⟨h1, h2, h3⟩ := allowed_pow2 h.1 (by have := h.2.2; omega) k
    exact .inl ⟨gv_ok h1, h1, h3, by omega⟩
  · refine .inr ⟨gv_no fun ha => ?_, by omega⟩
    have he : exps (2 ^ n) = [n] := by simp [exps, form_pow2]
    have : height (2 ^ n) = height (n : Int) + 1 := by rw [height_eq, he]; simp
    have := ha.2.2.2
    omega

theorem sg_pow_self (n : Nat) : sg (2 ^ n - (n : Int)) = 1 := by
  have := lt_two_pow n
  unfold sg
  rw [if_neg (by omega), if_neg (by omega)]

theorem pow_lt {a b : Nat} (h : a < b) : (2 : Int) ^ a < 2 ^ b := by
  have h1 := pow_mono (show a + 1 ≤ b by omega)
  rw [pow_succ'] at h1
  have := two_pow_pos a
  omega

theorem sg_pow_pow (n k : Nat) : sg (2 ^ n - 2 ^ k) = sg ((n : Int) - (k : Int)) := by
  unfold sg
  rcases Nat.lt_trichotomy n k with h | h | h
  · have := pow_lt h
    rw [if_pos (by omega), if_pos (by omega)]
  · subst h; simp
  · have := pow_lt h
    rw [if_neg (by omega), if_neg (by omega), if_neg (by omega), if_neg (by omega)]

theorem sg_pow_more (n k : Nat) : sg (2 ^ n + 2 ^ k - 2 ^ n) = 1 ∧ sg (2 ^ n + 2 ^ k - 2 ^ k) = 1 := by
  have h1 := two_pow_pos n
  have h2 := two_pow_pos k
  unfold sg
  exact ⟨by rw [if_neg (by omega), if_neg (by omega)], by rw [if_neg (by omega), if_neg (by omega)]⟩

theorem termsZ_pow (n : Nat) : termsZ (2 ^ n) = [(false, (n : Int))] := by unfold termsZ; rw [form_pow2]; rfl

theorem pick_two {w W2 : World} {av : Option Addr} {cv : Nat} {zs : List Int} {ps : List (Option Addr)} (hns : NsOwn W2 w.heap.size (.slice av zs.length cv) zs ps) (hml : MadeL zs) (hb2 : Below w.heap.size w W2) (b0 b1 : Int) :
    ∃ (x y : Int) (px py : Option Addr) (bb oo m i j : Nat), av = some ⟨bb, oo, none⟩ ∧ m = zs.length ∧ m ≤ cv ∧ i < m ∧ j < m ∧
      (∀ W, Calls Try.prog 46 #[.int .i64 b0, .int .i64 (m : Int)] W fun e w' => e = .returned (.int .i64 (i : Int)) ∧ w' = W) ∧
      (∀ W, Calls Try.prog 46 #[.int .i64 b1, .int .i64 (m : Int)] W fun e w' => e = .returned (.int .i64 (j : Int)) ∧ w' = W) ∧
      (∀ W, Below W2.heap.size W2 W → W.cell? ⟨bb, oo + i, none⟩ = some (.pointer px) ∧ W.cell? ⟨bb, oo + j, none⟩ = some (.pointer py)) ∧
      St w W2 [] [] ∧ NumIs W2 (.agg #[.pointer px]) x ∧ NumIs W2 (.agg #[.pointer py]) y ∧ Mod x ∧ Mod y := by
  have hpos : 0 < zs.length := by have := hml.1; omega
  have hle : zs.length ≤ 100000 := by have := hml.2.1; omega
  obtain ⟨i, hi, -, hr1⟩ := lawRest_pick b0 hpos hle
  obtain ⟨j, hj, -, hr2⟩ := lawRest_pick b1 hpos hle
  obtain ⟨bb, oo, c, px, x, e1, hc, hbb, hx, hcx, hnx⟩ := hns.at_.pick hi
  obtain ⟨bb', oo', c', py, y, e2, -, -, hy, hcy, hny⟩ := hns.at_.pick hj
  obtain ⟨rfl, -, rfl⟩ := Value.slice.inj e1
  obtain ⟨e2', -, -⟩ := Value.slice.inj e2
  obtain ⟨rfl, rfl⟩ : bb = bb' ∧ oo = oo' := by simpa using e2'
  refine ⟨x, y, px, py, bb, oo, zs.length, i, j, rfl, rfl, hc, hi, hj, hr1, hr2, fun W hb => ?_, (St.start w).adv hb2, hnx, hny, ⟨hnx.1, hml.2.2 x (List.mem_of_getElem? hx)⟩, ⟨hny.1, hml.2.2 y (List.mem_of_getElem? hy)⟩⟩
  have hs := fun q => cell_same (hb.block _ hbb) q
  exact ⟨(hs _).trans hcx, (hs _).trans hcy⟩

end Go.Proofs.Ytgchfbfgjanaiaa

namespace Go.Proofs.Ytgchfbfgjanaiaa
open Go.RowKit Sr

/-- blocks of other types than those of numbers and of the cells that hold them -/
def Afar (w : World) (M : Nat → Prop) : Prop := ∀ k, M k → ∀ t, TyBlk w k t → t ≠ 98 ∧ t ≠ 96 ∧ t ≠ 128 ∧ t ≠ 30

theorem Afar.apart {w : World} {M : Nat → Prop} (h : Afar w M) : Apart w M := fun k hk t ht => ⟨(h k hk t ht).1, (h k hk t ht).2.1, (h k hk t ht).2.2.1⟩

theorem own_afar {w : World} {B t s n : Nat} {v : Value} {xs : List Value} (h : w.ownsRow B t s v n xs) (ht : t ≠ 98 ∧ t ≠ 96 ∧ t ≠ 128 ∧ t ≠ 30) : Afar w (fun q => v.ownBlock = some q) := by
  intro k hk t' ⟨cs, fz, e⟩
  rcases h.2 with ⟨rfl, _⟩ | ⟨g, cap, cur, rfl, _, hg, _⟩
  · simp [Value.ownBlock] at hk
  · have : g = k := Option.some.inj hk
    subst this
    rw [hg] at e
    simp only [Option.some.injEq, Obj.cells.injEq] at e
    rw [← e.2.1]
    exact ht

theorem St.afar {w0 W W' : World} {nums : NumL} {cells : CellL} {M : Nat → Prop} (h : St w0 W nums cells) (hM : Afar W M) (hB : ∀ k, M k → w0.heap.size ≤ k) (e : Ext M W W') : St w0 W' nums cells := by
  refine ⟨below_ext h.below e hB, fun i p x hi => (h.nums_ i p x hi).apart hM.apart e, fun i k p x hi => ⟨⟨e.get (h.blk i hi) fun hk => ?_, (h.cnum i hi).apart hM.apart e⟩, (h.cells_ i k p x hi).2⟩, h.apart⟩
  exact (hM k hk _ ⟨_, _, h.blk i hi⟩).2.2.2 rfl

/-- Bytes, the value written out -/
theorem Bytes_own {w : World} {u : Value} {x : Int} (h : NumIs w u x) : Calls Try.prog 23 #[u] w fun e w' => ∃ g c, e = .returned (.slice (some ⟨g, 0, none⟩) (bytesN x).length c) ∧ w'.ownsRow w.heap.size 5 1 (.slice (some ⟨g, 0, none⟩) (bytesN x).length c) (bytesN x).length (u8s (bytesN x)) ∧ Below w.heap.size w w' :=
  (Bytes_any h).mono fun e w' q => by
    obtain ⟨a, c, rfl, ho, hb⟩ := q
    have hpos : 0 < (bytesN x).length := by unfold bytesN; simp [twoN]
    obtain ⟨g, cap, e⟩ := own_form ho hpos
    obtain ⟨rfl, -, rfl⟩ := Value.slice.inj e
    exact ⟨g, _, rfl, ho, hb⟩

theorem trow_set : ∀ (l : List (Bool × Option Addr)) (i : Nat) (t : Bool × Option Addr), i < l.length → trow (l.set i t) = ((trow l).set (i * 2) (.bool t.1)).set (i * 2 + 1) (.pointer t.2)
  | [], i, t, h => by simp at h
  | s :: l, 0, t, _ => by simp [trow]
  | s :: l, i + 1, t, h => by
    have ih := trow_set l i t (by simpa using h)
    rw [show (i + 1) * 2 = i * 2 + 1 + 1 by omega]
    simp [trow, ih]

theorem trow_set1 : ∀ (l : List (Bool × Option Addr)) (i : Nat) (t : Bool × Option Addr) (b : Bool), l[i]? = some t → trow (l.set i (b, t.2)) = (trow l).set (i * 2) (.bool b)
  | [], i, t, b, h => by simp at h
  | s :: l, 0, t, b, h => by simp at h; subst h; simp [trow]
  | s :: l, i + 1, t, b, h => by
    have ih := trow_set1 l i t b (by simpa using h)
    rw [show (i + 1) * 2 = i * 2 + 1 + 1 by omega]
    simp [trow, ih]

theorem loadR_ok {x : Int} (h : Allowed x) : loadR (bytesN x) = (x, 0) := by
  have hx : ∃ y, Allowed y ∧ bytesN y = bytesN x := ⟨x, h, rfl⟩
  unfold loadR
  rw [dif_pos hx, bytesN_inj hx.choose_spec.1 h hx.choose_spec.2]

end Go.Proofs.Ytgchfbfgjanaiaa

namespace Go.Proofs.Ytgchfbfgjanaiaa
open Go.RowKit Sr

set_option maxRecDepth 100000 in
set_option maxHeartbeats 4000000 in
theorem lawOwn_any {w : World} {v : Value} {ops : List (Int × Int × Int × Int)} (h : OpsAt w v ops) {n1 n2 : Int} (hn1 : Is64 n1) (hn2 : Is64 n2) : Calls Try.prog 12 #[v, .int .i64 n1, .int .i64 n2] w fun e w' => e = .returned (.bool true) ∧ Below w.heap.size w w' := by
  clear hn1 hn2
  have hmd := lawMade_any h
  have HM := Sealed.mk hmd; clear hmd h
  go_enter Try.func12, Try.ntmps12
  go_upto_region 2 with (go_at_call 40; go_must (refine HM.out.mono ?_; rintro e W2 ⟨av, cv, zs, ps, rfl, hns, hml, hb2⟩; have H2 := Sealed.mk (And.intro hns (And.intro hml hb2)); clear hns hml hb2))
  clear HM
  obtain ⟨x, y, px, py, bb, oo, m, i, j, rfl, hm, hmc, hi, hj, hr1, hr2, hC, S2, nx, ny, hx, hy⟩ := pick_two H2.out.1 H2.out.2.1 H2.out.2.2 n1 n2
  rw [← hm]
  have HR := Sealed.mk (And.intro hr1 hr2); clear hr1 hr2
  have HC := Sealed.mk hC; clear hC
  have HZ := Sealed.mk (And.intro hx hy); clear hx hy
  replace H2 := Sealed.mk (And.intro S2 (And.intro nx ny)); clear S2 nx ny hm
  go_cut [8, 9] from 22 to 35 (fun va vb wx => ∃ ka kb, va = .pointer (some ⟨ka, 0, none⟩) ∧ vb = .pointer (some ⟨kb, 0, none⟩) ∧ St w wx [] [(ka, px, x), (kb, py, y)])
  case first =>
    refine wp_region_noPanic ?_
    refine wp_region_held_drew (S := fun W => W.cell? ⟨bb, oo + i, none⟩ = some (.pointer px) ∧ W.cell? ⟨bb, oo + j, none⟩ = some (.pointer py)) (by kernel_rfl) ?_ (fun hHeld => ?_)
    · exact HC.out _ (below_drew _)
    refine wpAnyH_take (i := 0) (v := ?_) rfl (by kernel_rfl) (by kernel_rfl) (by kernel_rfl) (fun _ _ _ h => h) (Or.inl ⟨by rfl, ?_⟩) (by assumption) ?_
    rotate_left
    · intro w hSw; (try dsimp only at hSw); go_simp; first | done | with_reducible rfl
    simp only [Act.put, List.getElem_toArray, List.getElem_cons_zero, List.getElem_cons_succ, List.setIfInBounds_toArray, List.set_cons_zero, List.set_cons_succ]
    refine wpAnyH_take (i := 1) (v := ?_) rfl (by kernel_rfl) (by kernel_rfl) (by kernel_rfl) (fun _ _ _ h => h) (Or.inl ⟨by rfl, ?_⟩) (by assumption) ?_
    rotate_left
    · intro w hSw; (try dsimp only at hSw); go_simp; first | done | with_reducible rfl
    simp only [Act.put, List.getElem_toArray, List.getElem_cons_zero, List.getElem_cons_succ, List.setIfInBounds_toArray, List.set_cons_zero, List.set_cons_succ]
    refine wpAnyH_take (i := 2) (v := ?_) rfl (by kernel_rfl) (by kernel_rfl) (by kernel_rfl) (fun _ _ _ h => h) (Or.inl ⟨by rfl, ?_⟩) (by assumption) ?_
    rotate_left
    · intro w hSw; (try dsimp only at hSw); go_simp; first | done | with_reducible rfl
    simp only [Act.put, List.getElem_toArray, List.getElem_cons_zero, List.getElem_cons_succ, List.setIfInBounds_toArray, List.set_cons_zero, List.set_cons_succ]
    refine wpAnyH_take (i := 3) (v := ?_) rfl (by kernel_rfl) (by kernel_rfl) (by kernel_rfl) (fun _ _ _ h => h) (Or.inl ⟨by rfl, ?_⟩) (by assumption) ?_
    rotate_left
    · intro w hSw; (try dsimp only at hSw); go_simp; first | done | with_reducible rfl
    simp only [Act.put, List.getElem_toArray, List.getElem_cons_zero, List.getElem_cons_succ, List.setIfInBounds_toArray, List.set_cons_zero, List.set_cons_succ]
    refine wpAnyH_call (i := 4) (v := .int .i64 (i : Int)) rfl (by kernel_rfl) (by kernel_rfl) (by kernel_rfl) (fun _ _ _ h => h) ⟨by rfl, ?_⟩ (by assumption) ?_
    · intro w hSw; refine ⟨_, _, by go_simp; exact ⟨rfl, rfl⟩, ?_⟩; exact HR.out.1 _
    simp only [Act.put, List.getElem_toArray, List.getElem_cons_zero, List.getElem_cons_succ, List.setIfInBounds_toArray, List.set_cons_zero, List.set_cons_succ]
    refine wpAnyH_take (i := 5) (v := ?_) rfl (by kernel_rfl) (by kernel_rfl) (by kernel_rfl) (fun _ _ _ h => h) (Or.inl ⟨by rfl, ?_⟩) (by assumption) ?_
    rotate_left
    · intro w hSw; (try dsimp only at hSw); go_simp; first | done | with_reducible rfl
    simp only [Act.put, List.getElem_toArray, List.getElem_cons_zero, List.getElem_cons_succ, List.setIfInBounds_toArray, List.set_cons_zero, List.set_cons_succ]
    refine wpAnyH_take (i := 6) (v := ?_) rfl (by kernel_rfl) (by kernel_rfl) (by kernel_rfl) (fun _ _ _ h => h) (Or.inl ⟨by rfl, ?_⟩) (by assumption) ?_
    rotate_left
    · intro w hSw; (try dsimp only at hSw); go_simp; first | done | with_reducible rfl
    simp only [Act.put, List.getElem_toArray, List.getElem_cons_zero, List.getElem_cons_succ, List.setIfInBounds_toArray, List.set_cons_zero, List.set_cons_succ]
    refine wpAnyH_take (i := 7) (v := ?_) rfl (by kernel_rfl) (by kernel_rfl) (by kernel_rfl) (fun _ _ _ h => h) (Or.inl ⟨by rfl, ?_⟩) (by assumption) ?_
    rotate_left
    · intro w hSw; (try dsimp only at hSw); go_simp; first | done | with_reducible rfl
    simp only [Act.put, List.getElem_toArray, List.getElem_cons_zero, List.getElem_cons_succ, List.setIfInBounds_toArray, List.set_cons_zero, List.set_cons_succ]
    refine wpAnyH_take (i := 8) (v := ?_) rfl (by kernel_rfl) (by kernel_rfl) (by kernel_rfl) (fun _ _ _ h => h) (Or.inl ⟨by rfl, ?_⟩) (by assumption) ?_
    rotate_left
    · intro w hSw; (try dsimp only at hSw); go_simp; first | done | with_reducible rfl
    simp only [Act.put, List.getElem_toArray, List.getElem_cons_zero, List.getElem_cons_succ, List.setIfInBounds_toArray, List.set_cons_zero, List.set_cons_succ]
    refine wpAnyH_take (i := 9) (v := ?_) rfl (by kernel_rfl) (by kernel_rfl) (by kernel_rfl) (fun _ _ _ h => h) (Or.inl ⟨by rfl, ?_⟩) (by assumption) ?_
    rotate_left
    · intro w hSw; (try dsimp only at hSw); go_simp; first | done | with_reducible rfl
    simp only [Act.put, List.getElem_toArray, List.getElem_cons_zero, List.getElem_cons_succ, List.setIfInBounds_toArray, List.set_cons_zero, List.set_cons_succ]
    refine wpAnyH_take (i := 10) (v := ?_) rfl (by kernel_rfl) (by kernel_rfl) (by kernel_rfl) (fun _ _ _ h => h) (Or.inl ⟨by rfl, ?_⟩) (by assumption) ?_
    rotate_left
    · intro w hSw; (try dsimp only at hSw); go_simp; first | done | with_reducible rfl
    simp only [Act.put, List.getElem_toArray, List.getElem_cons_zero, List.getElem_cons_succ, List.setIfInBounds_toArray, List.set_cons_zero, List.set_cons_succ]
    refine wpAnyH_call (i := 11) (v := .int .i64 (j : Int)) rfl (by kernel_rfl) (by kernel_rfl) (by kernel_rfl) (fun _ _ _ h => h) ⟨by rfl, ?_⟩ (by assumption) ?_
    · intro w hSw; refine ⟨_, _, by go_simp; exact ⟨rfl, rfl⟩, ?_⟩; exact HR.out.2 _
    simp only [Act.put, List.getElem_toArray, List.getElem_cons_zero, List.getElem_cons_succ, List.setIfInBounds_toArray, List.set_cons_zero, List.set_cons_succ]
    refine wpAnyH_take (i := 12) (v := ?_) rfl (by kernel_rfl) (by kernel_rfl) (by kernel_rfl) (fun _ _ _ h => h) (Or.inl ⟨by rfl, ?_⟩) (by assumption) ?_
    rotate_left
    · intro w hSw; (try dsimp only at hSw); go_simp; first | done | with_reducible rfl
    simp only [Act.put, List.getElem_toArray, List.getElem_cons_zero, List.getElem_cons_succ, List.setIfInBounds_toArray, List.set_cons_zero, List.set_cons_succ]
    refine wpAnyH_take (i := 13) (v := ?_) rfl (by kernel_rfl) (by kernel_rfl) (by kernel_rfl) (fun _ _ _ h => h) (Or.inl ⟨by rfl, ?_⟩) (by assumption) ?_
    rotate_left
    · intro w hSw; (try dsimp only at hSw); go_simp; first | done | with_reducible rfl
    simp only [Act.put, List.getElem_toArray, List.getElem_cons_zero, List.getElem_cons_succ, List.setIfInBounds_toArray, List.set_cons_zero, List.set_cons_succ]
    refine wpAnyH_ready (rs := [14, 15]) (by kernel_rfl) (by simp) ?_
    refine AllReadyH.cons rfl (fun K hK => ?_) (AllReadyH.cons rfl (fun K hK => ?_) (AllReadyH.nil))
    · go_simp
      refine hK.out _ _ ?_ (fun hHeld => ?_)
      · exact HC.out _ (by repeat (first | exact Below.refl _ _ | refine below_dr ?_ | refine below_al ?_ | refine below_se ?_ (by omega)))
      clear hK K
      try simp only [Act.put, List.getElem_toArray, List.getElem_cons_zero, List.getElem_cons_succ, List.setIfInBounds_toArray, List.set_cons_zero, List.set_cons_succ]
      refine wpAnyH_ready (rs := [15]) (by kernel_rfl) (by simp) ?_
      refine AllReadyH.cons rfl (fun K hK => ?_) (AllReadyH.nil)
      go_simp
      refine hK.out _ _ ?_ (fun hHeld => ?_)
      · exact HC.out _ (by repeat (first | exact Below.refl _ _ | refine below_dr ?_ | refine below_al ?_ | refine below_se ?_ (by omega)))
      clear hK K
      try simp only [Act.put, List.getElem_toArray, List.getElem_cons_zero, List.getElem_cons_succ, List.setIfInBounds_toArray, List.set_cons_zero, List.set_cons_succ]
      refine wpAnyH_ready (rs := [16]) (by kernel_rfl) (by simp) ?_
      refine AllReadyH.cons rfl (fun K hK => ?_) (AllReadyH.nil)
      go_simp
      refine hK.out _ _ ?_ (fun hHeld => ?_)
      · exact HC.out _ (by repeat (first | exact Below.refl _ _ | refine below_dr ?_ | refine below_al ?_ | refine below_se ?_ (by omega)))
      clear hK K
      try simp only [Act.put, List.getElem_toArray, List.getElem_cons_zero, List.getElem_cons_succ, List.setIfInBounds_toArray, List.set_cons_zero, List.set_cons_succ]
      refine wpAnyH_ready (rs := [17]) (by kernel_rfl) (by simp) ?_
      refine AllReadyH.cons rfl (fun K hK => ?_) (AllReadyH.nil)
      go_simp
      refine hK.out _ _ ?_ (fun hHeld => ?_)
      · exact HC.out _ (by repeat (first | exact Below.refl _ _ | refine below_dr ?_ | refine below_al ?_ | refine below_se ?_ (by omega)))
      clear hK K
      try simp only [Act.put, List.getElem_toArray, List.getElem_cons_zero, List.getElem_cons_succ, List.setIfInBounds_toArray, List.set_cons_zero, List.set_cons_succ]
      refine wpAnyH_done (by kernel_rfl) ?_ _
      refine NoPanic.normal ?_
      go_wp2_with fail
      go_meet
      case rel =>
        first
          | exact ⟨_, _, rfl, rfl, (H2.out.1.new2 H2.out.2.1 H2.out.2.2).dr.sub (by simp) (by simp <;> omega)⟩
          | exact ⟨_, _, rfl, rfl, (H2.out.1.new2 H2.out.2.2 H2.out.2.1).dr.sub (by simp) (by simp <;> omega)⟩
    · go_simp
      refine hK.out _ _ ?_ (fun hHeld => ?_)
      · exact HC.out _ (by repeat (first | exact Below.refl _ _ | refine below_dr ?_ | refine below_al ?_ | refine below_se ?_ (by omega)))
      clear hK K
      try simp only [Act.put, List.getElem_toArray, List.getElem_cons_zero, List.getElem_cons_succ, List.setIfInBounds_toArray, List.set_cons_zero, List.set_cons_succ]
      refine wpAnyH_ready (rs := [14]) (by kernel_rfl) (by simp) ?_
      refine AllReadyH.cons rfl (fun K hK => ?_) (AllReadyH.nil)
      go_simp
      refine hK.out _ _ ?_ (fun hHeld => ?_)
      · exact HC.out _ (by repeat (first | exact Below.refl _ _ | refine below_dr ?_ | refine below_al ?_ | refine below_se ?_ (by omega)))
      clear hK K
      try simp only [Act.put, List.getElem_toArray, List.getElem_cons_zero, List.getElem_cons_succ, List.setIfInBounds_toArray, List.set_cons_zero, List.set_cons_succ]
      refine wpAnyH_ready (rs := [16]) (by kernel_rfl) (by simp) ?_
      refine AllReadyH.cons rfl (fun K hK => ?_) (AllReadyH.nil)
      go_simp
      refine hK.out _ _ ?_ (fun hHeld => ?_)
      · exact HC.out _ (by repeat (first | exact Below.refl _ _ | refine below_dr ?_ | refine below_al ?_ | refine below_se ?_ (by omega)))
      clear hK K
      try simp only [Act.put, List.getElem_toArray, List.getElem_cons_zero, List.getElem_cons_succ, List.setIfInBounds_toArray, List.set_cons_zero, List.set_cons_succ]
      refine wpAnyH_ready (rs := [17]) (by kernel_rfl) (by simp) ?_
      refine AllReadyH.cons rfl (fun K hK => ?_) (AllReadyH.nil)
      go_simp
      refine hK.out _ _ ?_ (fun hHeld => ?_)
      · exact HC.out _ (by repeat (first | exact Below.refl _ _ | refine below_dr ?_ | refine below_al ?_ | refine below_se ?_ (by omega)))
      clear hK K
      try simp only [Act.put, List.getElem_toArray, List.getElem_cons_zero, List.getElem_cons_succ, List.setIfInBounds_toArray, List.set_cons_zero, List.set_cons_succ]
      refine wpAnyH_done (by kernel_rfl) ?_ _
      refine NoPanic.normal ?_
      go_wp2_with fail
      go_meet
      case rel =>
        first
          | exact ⟨_, _, rfl, rfl, (H2.out.1.new2 H2.out.2.1 H2.out.2.2).dr.sub (by simp) (by simp <;> omega)⟩
          | exact ⟨_, _, rfl, rfl, (H2.out.1.new2 H2.out.2.2 H2.out.2.1).dr.sub (by simp) (by simp <;> omega)⟩
  case rest =>
    obtain ⟨ka, kb, rfl, rfl, hS⟩ := hcut
    obtain ⟨W3, hW3⟩ : ∃ W3, W3 = wc := ⟨_, rfl⟩
    rw [← hW3] at hS ⊢
    clear hW3 H2 HC HR
    have S := Sealed.mk hS; clear hS
    obtain ⟨bn, hbn⟩ : ∃ n, n = (bytesN x).length := ⟨_, rfl⟩
    have hbl : bn ≤ 1000000000 := by rw [hbn]; exact bytes_bounds HZ.out.1.1
    have hul : (u8s (bytesN x)).length = bn * 1 := by rw [hbn]; simp [u8s]
    have HBN := Sealed.mk (And.intro hbn hul); clear hbn hul
    go_upto_region 3 with fail
    have ld0 := fun o => (S.out.na (o := o)).cell 0 rfl
    have s3 := S.out.below.size
    go_upto_region 4 with (first
      | (go_at_call 23; go_must ((with_reducible refine (Bytes_own (S.out.na.cnum 0 rfl)).mono ?_); rintro e w4 ⟨g4, c4, rfl, ho4, hb4⟩; rw [← HBN.out.1] at ho4 ⊢; have HO4 := Sealed.mk (And.intro ho4 (And.intro hb4 (own_ext (own_empty (B := w.heap.size) (e := 5) (size := 1) s3 #[] rfl) (Ext.of_below (M := noB) hb4) (fun _ _ h => h)))); replace S := Sealed.mk (S.out.na.adv hb4); clear ho4 hb4))
      | (at_builtin; go_must (refine ap_blk (m := bn) el_u8 (.tmp 36) (.tmp 38) rfl rfl rfl HO4.out.2.2 rfl HBN.out.2 ?g0 ?g1 ?g2 ?g3 ?g4)))
    case g0 => intro j u hu; rw [Nat.zero_add]; exact own_cell HO4.out.1 rfl hu
    case g1 => intro u hu; obtain ⟨q, -, rfl⟩ := List.mem_map.1 hu; rfl
    case g2 => omega
    case g3 => exact S.out.below.size
    case g4 =>
      intro v5 w5 ho5 hg5 hn5
      have hbn0 : 0 < bn := by rw [HBN.out.1]; unfold bytesN; simp [twoN]
      try rw [Nat.zero_add] at ho5
      obtain ⟨g5, c5, rfl⟩ := own_form ho5 hbn0
      have x5 : Ext (fun q => (Value.slice (some ⟨W3.heap.size, 0, none⟩) 0 0).ownBlock = some q) w4 w5 := ⟨hg5.os, hg5.tape, hg5.output, hg5.size, fun q hq hn => hg5.block q hq fun e => hn e.symm⟩
      replace S := Sealed.mk (S.out.afar (own_afar HO4.out.2.2 (by decide)) (fun k hk => by have := Option.some.inj hk; simp at this; omega) x5)
      have HS5 := Sealed.mk S.out.below.size
      have HE := Sealed.mk (And.intro ho5 (ho5.lt g5 rfl).2); clear ho5 hg5 hn5 x5 HO4 ld0
      obtain ⟨tn, htn⟩ : ∃ n, n = wl x := ⟨_, rfl⟩
      have HTN := Sealed.mk htn; clear htn
      go_upto_region 4 with fail
      have ld0 := S.out.cell 0 rfl
      go_upto_region 5 with (go_at_call 41; go_must ((with_reducible refine (Terms_any (S.out.cnum 0 rfl)).mono ?_); rintro e wT ⟨aT, cT, tsT, rfl, hto, hb⟩; rw [← HTN.out] at hto ⊢; replace S := Sealed.mk (S.out.adv hb); replace HE := Sealed.mk (And.intro (own_ext HE.out.1 (Ext.of_below (M := noB) hb) (fun _ _ h => h)) HE.out.2); have ht2 := hto.own; rw [termsZ_length, ← HTN.out] at ht2; have HT := Sealed.mk (And.intro ht2 (And.intro (show tsT.length = tn by rw [hto.len, termsZ_length, ← HTN.out]) S.out.below.size)); clear hto hb ht2))
      clear ld0
      go_wp2_with fail
      go_loopg [12] tn (fun jj iv W => ∃ (k : Nat) (ts : List (Bool × Option Addr)), jj = tn - k ∧ k ≤ tn ∧ iv = .int .i64 (k : Int) ∧ Sealed (W.ownsRow w5.heap.size 47 2 (.slice aT tn cT) tn (trow ts) ∧ ts.length = tn ∧ Ext (fun q => (Value.slice aT tn cT).ownBlock = some q) wT W))
      case atStart => exact ⟨0, tsT, rfl, Nat.zero_le _, rfl, ⟨HT.out.1, HT.out.2.1, Ext.refl _ _⟩⟩
      case round =>
        obtain ⟨k, ts, rfl, hk, rfl, HR⟩ := hrel
        have S1 := Sealed.mk (S.out.afar (own_afar HT.out.1 (by decide)) (fun q hq => by have := own_ge HT.out.1 q hq; have := HS5.out; omega) HR.out.2.2)
        have htn40 : tn ≤ 40 := by have := HZ.out.1.2.1; have := HTN.out; omega
        have hkw : wrap64 ((k : Int) + 1) = (k : Int) + 1 := by unfold wrap64; omega
        by_cases hkt : k < tn
        · obtain ⟨gT, cT', eT⟩ := own_form HR.out.1 (by omega)
          obtain ⟨rfl, -, rfl⟩ := Value.slice.inj eT
          obtain ⟨⟨mk, pk⟩, htk⟩ : ∃ t, ts[k]? = some t := ⟨_, List.getElem?_eq_getElem (by rw [HR.out.2.1]; exact hkt)⟩
          obtain ⟨d0, d1⟩ := trow_at ts k _ htk
          have c0 : wr.drew.cell? ⟨gT, k * 2, none⟩ = some (.bool mk) := own_cell HR.out.1 rfl d0
          have c1 : wr.drew.cell? ⟨gT, k * 2 + 1, none⟩ = some (.pointer pk) := own_cell HR.out.1 rfl d1
          have cy : wr.drew.cell? ⟨kb, 0, none⟩ = some (.pointer py) := S1.out.cell 1 rfl
          have hfz : ∀ q, wr.drew.frozen? ⟨gT, q, none⟩ = false := fun q => by
            rcases HR.out.1.2 with ⟨e, _⟩ | ⟨g, cap, cur, e, _, hg, _⟩
            · cases e
            · obtain ⟨e1, -, -⟩ := Value.slice.inj e
              have : gT = g := by simpa using e1
              subst this
              exact frozen_of_blk hg q
          have f0 := hfz (k * 2)
          have f1 := hfz (k * 2 + 1)
          have c0' : wr.cell? ⟨gT, k * 2, none⟩ = some (.bool mk) := c0
          have c1' : wr.cell? ⟨gT, k * 2 + 1, none⟩ = some (.pointer pk) := c1
          have f0' : wr.frozen? ⟨gT, k * 2, none⟩ = false := f0
          have f1' : wr.frozen? ⟨gT, k * 2 + 1, none⟩ = false := f1
          have hk1 : (k : Int) < (tn : Int) := by omega
          have HTK := Sealed.mk htk
          clear d0 d1 htk eT hfz
          go_upto_region 8 with fail
          refine wp_region_still_tail 11 (by kernel_rfl) (by kernel_rfl) ?_
          simp only [List.take_succ_cons, List.take_zero, List.drop_succ_cons, List.drop_zero]
          (repeat still_step)
          refine wpStill_nil ?_
          change wpList _ _ _ _ _ wr.drew
          go_wp2_with fail
          go_roundg (tn - (k + 1))
          case measure => omega
          case rel =>
            have r1 := own_set (own_set (show wr.drew.ownsRow w5.heap.size 47 2 (.slice (some ⟨gT, 0, none⟩) tn cT) tn (trow ts) from HR.out.1) (b := gT) rfl (j := k * 2) (by omega) (.bool (!mk))) (b := gT) rfl (j := k * 2 + 1) (by omega) (.pointer py)
            have e1 := (((HR.out.2.2.drew).setCell (p := ⟨gT, k * 2, none⟩) (.inl rfl) (.bool (!mk))).setCell (p := ⟨gT, k * 2 + 1, none⟩) (.inl rfl) (.pointer py))
            refine ⟨k + 1, ts.set k (!mk, py), rfl, by omega, by push_cast; rfl, ⟨?_, by rw [List.length_set]; exact HR.out.2.1, e1⟩⟩
            rw [trow_set ts k (!mk, py) (by rw [HR.out.2.1]; exact hkt)]
            exact r1
        · obtain rfl : tn = k := by omega
          have ht := HR.out.1.lt
          have HE1 : Sealed (wr.ownsRow w.heap.size 5 1 (.slice (some ⟨g5, 0, none⟩) bn c5) bn (u8s (bytesN x)) ∧ g5 < wr.heap.size) := ⟨own_ext HE.out.1 HR.out.2.2 (fun q hq hk => by have h1 := own_ge HT.out.1 q hk; have h2 := HE.out.2; have : g5 = q := Option.some.inj hq; omega), by have h1 := HE.out.2; have h2 := (HE.out.1.lt g5 rfl).2; have := HR.out.2.2.size; omega⟩
          clear S HE HT ht
          have S := S1; clear S1
          go_upto_region 9 with fail
          have ld0 := S.out.cell 0 rfl
          go_upto_region 10 with (go_at_call 23; go_must ((with_reducible refine (Bytes_own (S.out.cnum 0 rfl)).mono ?_); rintro e w9 ⟨g9, c9, rfl, ho9, hb9⟩; rw [← HBN.out.1] at ho9 ⊢; have HS9 := Sealed.mk S.out.below.size; replace S := Sealed.mk (S.out.adv hb9); replace HE1 := Sealed.mk (And.intro (own_ext HE1.out.1 (Ext.of_below (M := noB) hb9) (fun _ _ h => h)) HE1.out.2); have HO9 := Sealed.mk (And.intro ho9 hb9.size); clear ho9 hb9))
          clear ld0
          have HQ9 : Sealed (w9.ownsRow w.heap.size 5 1 (.slice (some ⟨g9, 0, none⟩) bn c9) bn (u8s (bytesN x)) ∧ g5 < g9) := ⟨own_lower HO9.out.1 HS9.out, by have := own_ge HO9.out.1 g9 rfl; have := HE1.out.2; omega⟩
          replace HE1 := HE1.out.1
          have HE := Sealed.mk HE1
          clear HO9 HS9 HE1 HR hkt hk hkw
          go_wp2_with fail
          go_loopg [14] bn (fun jj iv W => ∃ (k : Nat) (us : List Value), jj = bn - k ∧ k ≤ bn ∧ iv = .int .i64 (k : Int) ∧ Sealed (W.ownsRow w.heap.size 5 1 (.slice (some ⟨g9, 0, none⟩) bn c9) bn us ∧ us.length = bn ∧ Ext (fun q => (Value.slice (some ⟨g9, 0, none⟩) bn c9).ownBlock = some q) w9 W))
          case atStart => exact ⟨0, u8s (bytesN x), rfl, Nat.zero_le _, rfl, ⟨HQ9.out.1, by rw [HBN.out.2, Nat.mul_one], Ext.refl _ _⟩⟩
          case round =>
            obtain ⟨k, us, rfl, hk, rfl, HR⟩ := hrel
            have hkw : wrap64 ((k : Int) + 1) = (k : Int) + 1 := by unfold wrap64; omega
            by_cases hkt : k < bn
            · obtain ⟨uk, huk⟩ : ∃ u, us[k]? = some u := ⟨_, List.getElem?_eq_getElem (by rw [HR.out.2.1]; exact hkt)⟩
              have c0 : wr.cell? ⟨g9, k, none⟩ = some uk := own_cell HR.out.1 rfl huk
              have f0 : wr.frozen? ⟨g9, k, none⟩ = false := by
                rcases HR.out.1.2 with ⟨e, _⟩ | ⟨g, cap, cur, e, _, hg, _⟩
                · cases e
                · obtain ⟨e1, -, -⟩ := Value.slice.inj e
                  have : g9 = g := by simpa using e1
                  subst this
                  exact frozen_of_blk hg k
              have hk1 : (k : Int) < (bn : Int) := by omega
              clear huk
              go_wp2_with fail
              go_roundg (bn - (k + 1))
              case measure => omega
              case rel =>
                refine ⟨k + 1, us.set k (.int .u8 255), rfl, by omega, by push_cast; rfl, ⟨own_set HR.out.1 (b := g9) rfl (j := k) (by omega) _, by rw [List.length_set]; exact HR.out.2.1, HR.out.2.2.setCell (p := ⟨g9, k, none⟩) (.inl rfl) _⟩⟩
            · obtain rfl : bn = k := by omega
              have S1 := Sealed.mk (S.out.afar (own_afar HQ9.out.1 (by decide)) (fun q hq => own_ge HQ9.out.1 q hq) HR.out.2.2)
              have HE1 : Sealed (wr.ownsRow w.heap.size 5 1 (.slice (some ⟨g5, 0, none⟩) bn c5) bn (u8s (bytesN x))) := ⟨own_ext HE.out HR.out.2.2 (fun q hq hk => by have h1 := HQ9.out.2; have e1 : g5 = q := Option.some.inj hq; have e2 : g9 = q := Option.some.inj hk; omega)⟩
              clear S HE HQ9 HR hkt hk hkw
              have S := S1; clear S1
              have HE := HE1; clear HE1
              go_upto_region 14 with fail
              have ld0 := S.out.cell 0 rfl
              have ld1 := S.out.cell 1 rfl
              go_upto_region 18 with (first
                | (go_at_call 32; go_must (first | ((with_reducible refine (Add_res (S.out.cnum 0 rfl) (S.out.cnum 1 rfl)).mono ?_); rintro e wA ⟨pA, rfl, hb, -⟩; replace S := Sealed.mk (S.out.adv hb); replace HE := Sealed.mk (own_ext HE.out (Ext.of_below (M := noB) hb) (fun _ _ h => h)); have lx0 := S.out.cell 0 rfl; have lx1 := S.out.cell 1 rfl; clear hb) | ((with_reducible refine (Add_res (S.out.cnum 1 rfl) (S.out.cnum 0 rfl)).mono ?_); rintro e wA ⟨pA, rfl, hb, -⟩; replace S := Sealed.mk (S.out.adv hb); replace HE := Sealed.mk (own_ext HE.out (Ext.of_below (M := noB) hb) (fun _ _ h => h)); have lx0 := S.out.cell 0 rfl; have lx1 := S.out.cell 1 rfl; clear hb)))
                | (go_at_call 33; go_must (first | ((with_reducible refine (Sub_res (S.out.cnum 0 rfl) (S.out.cnum 1 rfl)).mono ?_); rintro e wA ⟨pA, rfl, hb, -⟩; replace S := Sealed.mk (S.out.adv hb); replace HE := Sealed.mk (own_ext HE.out (Ext.of_below (M := noB) hb) (fun _ _ h => h)); have lx0 := S.out.cell 0 rfl; have lx1 := S.out.cell 1 rfl; clear hb) | ((with_reducible refine (Sub_res (S.out.cnum 1 rfl) (S.out.cnum 0 rfl)).mono ?_); rintro e wA ⟨pA, rfl, hb, -⟩; replace S := Sealed.mk (S.out.adv hb); replace HE := Sealed.mk (own_ext HE.out (Ext.of_below (M := noB) hb) (fun _ _ h => h)); have lx0 := S.out.cell 0 rfl; have lx1 := S.out.cell 1 rfl; clear hb)))
                | (go_at_call 34; go_must (first | ((with_reducible refine (Mul_res (S.out.cnum 0 rfl) (S.out.cnum 1 rfl)).mono ?_); rintro e wA ⟨pA, rfl, hb, -⟩; replace S := Sealed.mk (S.out.adv hb); replace HE := Sealed.mk (own_ext HE.out (Ext.of_below (M := noB) hb) (fun _ _ h => h)); have lx0 := S.out.cell 0 rfl; have lx1 := S.out.cell 1 rfl; clear hb) | ((with_reducible refine (Mul_res (S.out.cnum 1 rfl) (S.out.cnum 0 rfl)).mono ?_); rintro e wA ⟨pA, rfl, hb, -⟩; replace S := Sealed.mk (S.out.adv hb); replace HE := Sealed.mk (own_ext HE.out (Ext.of_below (M := noB) hb) (fun _ _ h => h)); have lx0 := S.out.cell 0 rfl; have lx1 := S.out.cell 1 rfl; clear hb)))
                | (go_at_call 25; go_must (first | ((with_reducible refine (Shift_res (S.out.cnum 0 rfl) (S.out.cnum 1 rfl)).mono ?_); rintro e wA ⟨pA, rfl, hb, -⟩; replace S := Sealed.mk (S.out.adv hb); replace HE := Sealed.mk (own_ext HE.out (Ext.of_below (M := noB) hb) (fun _ _ h => h)); have lx0 := S.out.cell 0 rfl; have lx1 := S.out.cell 1 rfl; clear hb) | ((with_reducible refine (Shift_res (S.out.cnum 1 rfl) (S.out.cnum 0 rfl)).mono ?_); rintro e wA ⟨pA, rfl, hb, -⟩; replace S := Sealed.mk (S.out.adv hb); replace HE := Sealed.mk (own_ext HE.out (Ext.of_below (M := noB) hb) (fun _ _ h => h)); have lx0 := S.out.cell 0 rfl; have lx1 := S.out.cell 1 rfl; clear hb))))
              have HG5 := Sealed.mk (HE.out.lt g5 rfl).2
              go_region_held3 (fun W => W.cell? ⟨ka, 0, none⟩ = some (.pointer px))
                (first | exact S.out.cell 0 rfl | exact S.out.dr.cell 0 rfl)
                (first
                  | (go_at_call 41; go_must (first
                      | (have hx := TO.out; (with_reducible refine (Terms_any (S.out.cnum 0 rfl)).mono ?_); rintro e wK ⟨aK, cK, tsK, rfl, hto, hb⟩; rw [← HTN.out] at hto ⊢; replace S := Sealed.mk (S.out.adv hb); replace HE := Sealed.mk (own_ext HE.out (Ext.of_below (M := noB) hb) (fun _ _ h => h)); replace TO := Sealed.mk (TO.out.below hb); have TK := Sealed.mk (And.intro hto TO.out); clear hto hb hx)
                      | ((with_reducible refine (Terms_any (S.out.dr.cnum 0 rfl)).mono ?_); rintro e wO ⟨aO, cO, tsO, rfl, hto, hb⟩; rw [← HTN.out] at hto ⊢; have HSO := Sealed.mk S.out.dr.below.size; replace S := Sealed.mk (S.out.dr.adv hb); replace HE := Sealed.mk (own_ext (w := wA.drew) HE.out (Ext.of_below (M := noB) hb) (fun _ _ h => h)); have TO := Sealed.mk hto; have HWO := Sealed.mk (fun q (hq : (Value.slice aO tn cO).ownBlock = some q) => (hto.own.lt q hq)); clear hto hb))))
              have HW : Sealed ((∀ q, (Value.slice aO tn cO).ownBlock = some q → w.heap.size ≤ q ∧ g5 ≠ q) ∧ ∀ q, (Value.slice aO tn cO).ownBlock = some q → (Value.slice aK tn cK).ownBlock ≠ some q) := ⟨fun q hq => by
                have h1 := (HWO.out q hq).1
                have h2 := HSO.out
                have h3 := HG5.out
                have h4 : wA.drew.heap.size = wA.heap.size := rfl
                omega, fun q hq hk => by
                have h1 := (HWO.out q hq).2
                have h2 := own_ge TK.out.1.own q hk
                omega⟩
              have TO1 := Sealed.mk TK.out.2
              have TK1 := Sealed.mk TK.out.1
              have HA : Sealed (tsO.length = tn ∧ tsK.length = tn ∧ (termsZ x).length = tn) := ⟨by rw [TK.out.2.len, termsZ_length, ← HTN.out], by rw [TK.out.1.len, termsZ_length, ← HTN.out], by rw [termsZ_length, ← HTN.out]⟩
              clear TO TK HWO HG5 HSO
              go_upto_region 20 with (go_at_call 27; go_must ((with_reducible refine (Sum_res (TO1.out.at_ (by rw [HA.out.2.2]; omega))).mono ?_); rintro e w20 ⟨pS, rfl, hb, -⟩; replace S := Sealed.mk (S.out.adv hb); replace HE := Sealed.mk (own_ext HE.out (Ext.of_below (M := noB) hb) (fun _ _ h => h)); replace TO1 := Sealed.mk (TO1.out.below hb); replace TK1 := Sealed.mk (TK1.out.below hb); clear hb))
              have hoo := TO1.out.own
              rw [HA.out.2.2] at hoo
              have hok := TK1.out.own
              rw [HA.out.2.2] at hok
              have HOO := Sealed.mk (And.intro hoo hok); clear hoo hok
              go_wp2_with fail
              go_loopg [17] tn (fun jj iv W => ∃ (k : Nat) (ts : List (Bool × Option Addr)), jj = tn - k ∧ k ≤ tn ∧ iv = .int .i64 (k : Int) ∧ Sealed (W.ownsRow 0 47 2 (.slice aO tn cO) tn (trow ts) ∧ ts.length = tn ∧ (∀ i, k ≤ i → ts[i]? = tsO[i]?) ∧ Ext (fun q => (Value.slice aO tn cO).ownBlock = some q) w20 W))
              case atStart => exact ⟨0, tsO, rfl, Nat.zero_le _, rfl, ⟨own_lower HOO.out.1 (Nat.zero_le _), HA.out.1, fun i _ => rfl, Ext.refl _ _⟩⟩
              case round =>
                obtain ⟨k, ts, rfl, hk, rfl, HR⟩ := hrel
                have hkw : wrap64 ((k : Int) + 1) = (k : Int) + 1 := by unfold wrap64; omega
                have haf := own_afar HOO.out.1 (by decide)
                have S1 := Sealed.mk (S.out.afar haf (fun q hq => (HW.out.1 q hq).1) HR.out.2.2.2)
                have HE1 : Sealed (wr.ownsRow w.heap.size 5 1 (.slice (some ⟨g5, 0, none⟩) bn c5) bn (u8s (bytesN x))) := ⟨own_ext HE.out HR.out.2.2.2 (fun q hq hk => (HW.out.1 q hk).2 (Option.some.inj hq))⟩
                by_cases hkt : k < tn
                · obtain ⟨gO, cO', eO⟩ := own_form HOO.out.1 (by omega)
                  obtain ⟨rfl, -, rfl⟩ := Value.slice.inj eO
                  obtain ⟨gK, cK', eK⟩ := own_form HOO.out.2 (by omega)
                  obtain ⟨rfl, -, rfl⟩ := Value.slice.inj eK
                  obtain ⟨⟨mo, po⟩, hto⟩ : ∃ t, tsO[k]? = some t := ⟨_, List.getElem?_eq_getElem (by rw [HA.out.1]; exact hkt)⟩
                  obtain ⟨⟨mk, pk⟩, htk⟩ : ∃ t, tsK[k]? = some t := ⟨_, List.getElem?_eq_getElem (by rw [HA.out.2.1]; exact hkt)⟩
                  obtain ⟨⟨mz, ez⟩, htz⟩ : ∃ t, (termsZ x)[k]? = some t := ⟨_, List.getElem?_eq_getElem (by rw [HA.out.2.2]; exact hkt)⟩
                  obtain ⟨e1, hno⟩ := TO1.out.num k _ _ hto htz
                  obtain ⟨e2, hnk⟩ := TK1.out.num k _ _ htk htz
                  simp only at e1 e2 hno hnk
                  subst e1
                  subst e2
                  have hts : ts[k]? = some (mk, po) := (HR.out.2.2.1 k (Nat.le_refl _)).trans hto
                  obtain ⟨d0, d1⟩ := trow_at ts k _ hts
                  obtain ⟨d2, d3⟩ := trow_at tsK k _ htk
                  have hkr : wr.ownsRow wO.heap.size 47 2 (.slice (some ⟨gK, 0, none⟩) tn cK) tn (trow tsK) := own_ext HOO.out.2 HR.out.2.2.2 (fun q hq hk => HW.out.2 q hk hq)
                  have hc : ∀ W, Below wr.heap.size wr W → W.cell? ⟨gO, k * 2, none⟩ = some (.bool mk) ∧ W.cell? ⟨gO, k * 2 + 1, none⟩ = some (.pointer po) ∧ W.cell? ⟨gK, k * 2, none⟩ = some (.bool mk) ∧ W.cell? ⟨gK, k * 2 + 1, none⟩ = some (.pointer pk) := fun W hb => by
                    have x0 := Ext.of_below (M := noB) hb
                    have r1 := own_ext HR.out.1 x0 (fun _ _ h => h)
                    have r2 := own_ext hkr x0 (fun _ _ h => h)
                    exact ⟨own_cell r1 rfl d0, own_cell r1 rfl d1, own_cell r2 rfl d2, own_cell r2 rfl d3⟩
                  have hfz : ∀ W, Below wr.heap.size wr W → W.frozen? ⟨gO, k * 2, none⟩ = false := fun W hb => by
                    have r1 := own_ext HR.out.1 (Ext.of_below (M := noB) hb) (fun _ _ h => h)
                    rcases r1.2 with ⟨e, _⟩ | ⟨g, cap, cur, e, _, hg, _⟩
                    · cases e
                    · obtain ⟨e1, -, -⟩ := Value.slice.inj e
                      have : gO = g := by simpa using e1
                      subst this
                      exact frozen_of_blk hg _
                  have HCF := Sealed.mk (And.intro hc hfz)
                  have HN := Sealed.mk (And.intro (hno.apart haf.apart HR.out.2.2.2) (hnk.apart haf.apart HR.out.2.2.2))
                  have HTS := Sealed.mk hts
                  have hk1 : (k : Int) < (tn : Int) := by omega
                  have htl : ((ts.length : Nat) : Int) = (tn : Int) := by rw [HR.out.2.1]
                  clear hc hfz hno hnk hts d0 d1 d2 d3 hkr hto htk htz eO eK haf htl
                  go_upto_region 23 with fail
                  go_cut [118] from 94 to 118 (fun v wx => v = .bool false ∧ Below wr.heap.size wr wx)
                  case first =>
                    have HB := Sealed.mk (below_drew wr)
                    go_region_held3 (fun W => W.cell? ⟨gO, k * 2, none⟩ = some (.bool mk) ∧ W.cell? ⟨gO, k * 2 + 1, none⟩ = some (.pointer po) ∧ W.cell? ⟨gK, k * 2, none⟩ = some (.bool mk) ∧ W.cell? ⟨gK, k * 2 + 1, none⟩ = some (.pointer pk))
                      (exact HCF.out.1 _ HB.out)
                      (first
                        | (go_at_call 20; go_must ((with_reducible refine (lawSame_any (HN.out.1.below HB.out) (HN.out.2.below HB.out)).mono ?_); rintro e wS ⟨rfl, hb⟩; replace HB := Sealed.mk (below_chain HB.out hb); clear hb)))
                    all_goals
                      go_wp2_with fail
                      go_meet
                      case rel => exact ⟨by first | rfl | simp, HB.out⟩
                  case rest =>
                    obtain ⟨rfl, hbc⟩ := hcut
                    obtain ⟨WQ, hWQ⟩ : ∃ WQ, WQ = wc := ⟨_, rfl⟩
                    rw [← hWQ] at hbc ⊢
                    clear hWQ
                    have cw := (HCF.out.1 _ hbc).1
                    have fw := HCF.out.2 _ hbc
                    have HBC := Sealed.mk hbc; clear hbc
                    go_wp2_with fail
                    go_roundg (tn - (k + 1))
                    case measure => omega
                    case rel =>
                      have r1 := own_set (own_ext HR.out.1 (Ext.of_below (M := noB) HBC.out) (fun _ _ h => h)) (b := gO) rfl (j := k * 2) (by omega) (.bool true)
                      refine ⟨k + 1, ts.set k (true, po), rfl, by omega, by push_cast; rfl, ⟨?_, by rw [List.length_set]; exact HR.out.2.1, fun i hi => ?_, ?_⟩⟩
                      · rw [trow_set1 ts k _ true HTS.out]
                        exact r1
                      · rw [List.getElem?_set_ne (by omega)]
                        exact HR.out.2.2.1 i (by omega)
                      · exact (HR.out.2.2.2.same (Ext.of_below HBC.out)).setCell (p := ⟨gO, k * 2, none⟩) (.inl rfl) _
                · obtain rfl : tn = k := by omega
                  clear S HE HOO TO1 TK1 HA HR HW haf
                  have S := S1; clear S1
                  have KL : Sealed (loadR (bytesN x) = (x, 0)) := ⟨loadR_ok HZ.out.1.1⟩
                  have HBA : Sealed (BytesAt wr (.slice (some ⟨g5, 0, none⟩) bn c5) (bytesN x)) := ⟨by
                    have h := HE1.out
                    rw [HBN.out.1] at h ⊢
                    exact BytesAt.of_own h (bytesN_range HZ.out.1.1) (bytes_bounds HZ.out.1.1)⟩
                  go_upto_region 27 with (go_at_call 18; go_must ((with_reducible refine (Load_two KL.out HBA.out).mono ?_); rintro e wL ⟨pL, rfl, hb, hn⟩; replace S := Sealed.mk (S.out.res hb hn); replace HBA := Sealed.mk (HBA.out.below hb); clear hb hn))
                  have S0 := (S.out.new (S.out.num 0 rfl)).clr
                  obtain ⟨WM, hWM⟩ : ∃ WM, WM = wL.alloc (.cells #[.pointer pL] 30) := ⟨_, rfl⟩
                  replace HBA := Sealed.mk (HBA.out.below (below_new _ (.cells #[.pointer pL] 30)))
                  rw [← hWM] at S0 HBA ⊢
                  replace S := Sealed.mk S0; clear S0 hWM
                  have ld0 := S.out.cell 0 rfl
                  have ld1 := S.out.cell 1 rfl
                  have HXX : Sealed (sg (x - x) = 0 ∧ decide (bytesN x = bytesN x) = true) := ⟨by rw [Int.sub_self]; rfl, by simp⟩
                  go_wp2_with (first
                    | (go_at_call 23; go_must ((with_reducible refine (Bytes_at (S.out.cnum 1 rfl)).mono ?_); rintro e wB ⟨aB, cB, rfl, hba, hb⟩; replace S := Sealed.mk (S.out.adv hb); replace HBA := Sealed.mk (And.intro (HBA.out.below hb) hba); have lx0 := S.out.cell 0 rfl; have lx1 := S.out.cell 1 rfl; clear hb hba))
                    | (go_at_call 19; go_must ((with_reducible refine (Same_any HBA.out.2 HBA.out.1).mono ?_); rintro e wS ⟨rfl, hb⟩; subst hb))
                    | (go_at_call 37; go_must ((with_reducible refine (Cmp_any (S.out.cnum 0 rfl) (S.out.cnum 1 rfl)).mono ?_); rintro e wC ⟨rfl, hb⟩; rw [HXX.out.1]; replace S := Sealed.mk (S.out.adv hb); have lx0 := S.out.cell 0 rfl; have lx1 := S.out.cell 1 rfl; clear hb))
                    | (go_at_call 20; go_must ((with_reducible refine (lawSame_any (S.out.cnum 0 rfl) (S.out.cnum 1 rfl)).mono ?_); rintro e wD ⟨rfl, hb⟩; replace S := Sealed.mk (S.out.adv hb); clear hb))
                    | (go_at_call 15; go_must ((with_reducible refine (awake1_any _).mono ?_); rintro e w999 ⟨rfl, hb⟩; replace S := Sealed.mk (S.out.adv hb); clear hb)))
                  go_ret
                  exact ⟨rfl, S.out.below⟩


end Go.Proofs.Ytgchfbfgjanaiaa
