/-
  shifts of numbers: plain laws
  powers of two: plain laws; two numbers out of those that are made
  plain facts of the numbers of NumFull
  numbers stay while other memory of the call's own is written
  sums in another order: plain laws; lists of int8s in memory
  two lists of terms and cells of numbers, all of a call's own
-/
import Derived.Test.YtgchfbfgjanaiaaK02
import Derived.Test.YtgchfbfgjanaiaaJ35
set_option linter.unusedSimpArgs false
set_option linter.unusedVariables false
namespace Go.Proofs.Ytgchfbfgjanaiaa
open Go.RowKit Sr

theorem shl_zero (y : Int) : shl 0 y = 0 := by unfold shl shlL; rw [form_zero]; rfl

theorem whole_shl {x y z : Int} (h : Whole x y) : Whole (shl x y) z ↔ Whole x (y + z) := by
  constructor
  · intro k t ht
    have h1 := h t ht
    have h2 := k (t.1, ((t.2 : Int) + y).toNat) (by rw [form_shl h]; exact List.mem_map.2 ⟨t, ht, rfl⟩)
    simp only at h2
    omega
  · intro k t ht
    rw [form_shl h] at ht
    obtain ⟨s, hs, rfl⟩ := List.mem_map.1 ht
    have h1 := h s hs
    have h2 := k s hs
    simp only
    omega

theorem shl_shl {x y z : Int} (h : Whole x y) (k : Whole x (y + z)) : shl (shl x y) z = shl x (y + z) := by
  unfold shl
  congr 1
  show ((form (shl x y)).map _) = _
  rw [form_shl h]
  unfold shlL
  rw [List.map_map]
  apply List.map_congr_left
  intro t ht
  have h1 := h t ht
  have h2 := k t ht
  simp only [Function.comp_def]
  rw [show ((((t.2 : Int) + y).toNat : Nat) : Int) + z = (t.2 : Int) + (y + z) by omega]

theorem shl_none (x : Int) : shl x 0 = x := by have := shl_nat x 0; simpa using this

/-- back again -/
theorem shl_again {x y : Int} (h : Whole x y) : Whole (shl x y) (-y) ∧ shl (shl x y) (-y) = x := by
  have hk : Whole x (y + -y) := fun t ht => by omega
  refine ⟨(whole_shl h).2 hk, ?_⟩
  rw [shl_shl h hk, show y + -y = (0 : Int) by omega, shl_none]

/-- of a sum -/
theorem shl_sum {x z y : Int} (hx : Whole x y) (hz : Whole z y) : Whole (x + z) y ∧ shl (x + z) y = shl x y + shl z y := by
  rcases Int.lt_or_le y 0 with h | h
  · obtain ⟨n, rfl⟩ : ∃ n : Nat, y = -(n : Int) := ⟨y.natAbs, by omega⟩
    have e1 := shl_back hx
    have e2 := shl_back hz
    have e3 : x + z = 2 ^ n * (shl x (-(n : Int)) + shl z (-(n : Int))) := by rw [Int.mul_add, e1, e2]
    refine ⟨whole_iff.2 ⟨_, e3⟩, ?_⟩
    rw [e3, shl_div]
  · obtain ⟨n, rfl⟩ : ∃ n : Nat, y = (n : Int) := ⟨y.natAbs, by omega⟩
    refine ⟨whole_nat _ _, ?_⟩
    rw [shl_nat, shl_nat, shl_nat, Int.mul_add]

theorem wl_pow2 (n : Nat) : wl (2 ^ n) = 1 := by unfold wl; rw [form_pow2]; rfl

theorem shl_one (n : Nat) : shl 1 n = 2 ^ n := by rw [shl_nat, Int.mul_one]

theorem shiftR_nat (x : Int) (n : Nat) : shiftR x n = gv (2 ^ n * x) := by unfold shiftR; rw [if_pos (whole_nat x n), shl_nat]

/-- a shift to the left is a product -/
theorem mulR_pow {x : Int} (hx : Allowed x) (n : Nat) : mulR x (2 ^ n) = shiftR x n := by
  have := hx.1
  unfold mulR
  rw [wl_pow2, Nat.mul_one, if_pos (by unfold wl; omega), shiftR_nat, Int.mul_comm]

theorem shiftR_ways (x y : Int) : ∃ u e, shiftR x y = (u, e) ∧ ((e = 0 ∧ Whole x y ∧ Allowed (shl x y) ∧ u = shl x y) ∨ (e = 5 ∧ Whole x y ∧ u = 0) ∨ (e = 4 ∧ ¬ Whole x y ∧ u = 0)) := by
  unfold shiftR
  by_cases h : Whole x y
  · rw [if_pos h]
    by_cases k : Allowed (shl x y)
    · exact ⟨_, 0, gv_ok k, .inl ⟨rfl, h, k, rfl⟩⟩
    · exact ⟨0, 5, gv_no k, .inr (.inl ⟨rfl, h, rfl⟩)⟩
  · rw [if_neg h]; exact ⟨0, 4, rfl, .inr (.inr ⟨rfl, h, rfl⟩)⟩

theorem shiftR_ok {x y : Int} (h : Whole x y) (k : Allowed (shl x y)) : shiftR x y = (shl x y, 0) := by unfold shiftR; rw [if_pos h, gv_ok k]

/-- the least term decides -/
theorem whole_last {x y : Int} {t : T} (h : (form x)[wl x - 1]? = some t) : Whole x y ↔ 0 ≤ (t.2 : Int) + y := by
  constructor
  · intro k; exact k t (List.mem_of_getElem? h)
  · intro k s hs
    obtain ⟨n, hu⟩ := form_form x
    have hp : ∀ (l : List T) (n : Nat), Under n l → ∀ (i j : Nat) (a b : T), i ≤ j → l[i]? = some a → l[j]? = some b → b.2 ≤ a.2 := by
      intro l
      induction l with
      | nil => intro n _ i j a b _ ha; simp at ha
      | cons c l ih =>
        intro n hu i j a b hij ha hb
        cases i with
        | zero =>
          simp at ha; subst ha
          have := under_mem (c :: l) (c.2 + 1) ⟨by omega, hu.2⟩ b (List.mem_of_getElem? hb)
          omega
        | succ i =>
          cases j with
          | zero => omega
          | succ j => exact ih _ hu.2.1 i j a b (by omega) (by simpa using ha) (by simpa using hb)
    obtain ⟨i, hi⟩ := List.getElem?_of_mem hs
    have hil := (List.getElem?_eq_some_iff.1 hi).1
    have := hp _ _ hu i (wl x - 1) s t (by unfold wl; omega) hi h
    omega

theorem whole_zero (y : Int) : Whole 0 y := fun t ht => by rw [form_zero] at ht; simp at ht

end Go.Proofs.Ytgchfbfgjanaiaa

namespace Go.Proofs.Ytgchfbfgjanaiaa
open Go.RowKit Sr

theorem natAbs_mod {x : Int} (h : Mod x) : Mod (x.natAbs : Int) := by
  rcases Int.natAbs_eq x with e | e
  · rw [← e]; exact h
  · have e2 : ((x.natAbs : Nat) : Int) = -x := by omega
    rw [e2]
    refine ⟨allowed_neg h.1, by rw [wl_neg]; exact h.2.1, ?_⟩
    have := h.2.2
    unfold weight at this ⊢
    rw [plist_neg]; exact this

theorem pow_ways {n : Nat} (h : Mod (n : Int)) : (gv (2 ^ n) = (2 ^ n, 0) ∧ Allowed (2 ^ n) ∧ height (2 ^ n) = height (n : Int) + 1 ∧ height (n : Int) ≤ 99) ∨ (gv (2 ^ n) = (0, 5) ∧ height (n : Int) = 100) := by
  have hh := h.1.2.2.2
  by_cases k : height (n : Int) + 1 ≤ 100
  · obtain ⟨h1, h2, h3⟩ := allowed_pow2 h.1 (by have := h.2.2; omega) k
    exact .inl ⟨gv_ok h1, h1, h3, by omega⟩
  · refine .inr ⟨gv_no fun ha => ?_, by omega⟩
    have he : exps (2 ^ n) = [n] := by simp [exps, form_pow2]
    have : height (2 ^ n) = height (n : Int) + 1 := by rw [height_eq, he]; simp
    have := ha.2.2.2
    omega

theorem sg_pow_self (n : Nat) : sg (2 ^ n - (n : Int)) = 1 := by
  have := lt_two_pow n
  unfold sg
  rw [if_neg (by omega), if_neg (by omega)]

theorem pow_lt {a b : Nat} (h : a < b) : (2 : Int) ^ a < 2 ^ b := by
  have h1 := pow_mono (show a + 1 ≤ b by omega)
  rw [pow_succ'] at h1
  have := two_pow_pos a
  omega

theorem sg_pow_pow (n k : Nat) : sg (2 ^ n - 2 ^ k) = sg ((n : Int) - (k : Int)) := by
  unfold sg
  rcases Nat.lt_trichotomy n k with h | h | h
  · have := pow_lt h
    rw [if_pos (by omega), if_pos (by omega)]
  · subst h; simp
  · have := pow_lt h
    rw [if_neg (by omega), if_neg (by omega), if_neg (by omega), if_neg (by omega)]

theorem sg_pow_more (n k : Nat) : sg (2 ^ n + 2 ^ k - 2 ^ n) = 1 ∧ sg (2 ^ n + 2 ^ k - 2 ^ k) = 1 := by
  have h1 := two_pow_pos n
  have h2 := two_pow_pos k
  unfold sg
  exact ⟨by rw [if_neg (by omega), if_neg (by omega)], by rw [if_neg (by omega), if_neg (by omega)]⟩

theorem termsZ_pow (n : Nat) : termsZ (2 ^ n) = [(false, (n : Int))] := by unfold termsZ; rw [form_pow2]; rfl

theorem pick_two {w W2 : World} {av : Option Addr} {cv : Nat} {zs : List Int} {ps : List (Option Addr)} (hns : NsOwn W2 w.heap.size (.slice av zs.length cv) zs ps) (hml : MadeL zs) (hb2 : Below w.heap.size w W2) (b0 b1 : Int) :
    ∃ (x y : Int) (px py : Option Addr) (bb oo m i j : Nat), av = some ⟨bb, oo, none⟩ ∧ m = zs.length ∧ m ≤ cv ∧ i < m ∧ j < m ∧
      (∀ W, Calls Try.prog 46 #[.int .i64 b0, .int .i64 (m : Int)] W fun e w' => e = .returned (.int .i64 (i : Int)) ∧ w' = W) ∧
      (∀ W, Calls Try.prog 46 #[.int .i64 b1, .int .i64 (m : Int)] W fun e w' => e = .returned (.int .i64 (j : Int)) ∧ w' = W) ∧
      (∀ W, Below W2.heap.size W2 W → W.cell? ⟨bb, oo + i, none⟩ = some (.pointer px) ∧ W.cell? ⟨bb, oo + j, none⟩ = some (.pointer py)) ∧
      St w W2 [] [] ∧ NumIs W2 (.agg #[.pointer px]) x ∧ NumIs W2 (.agg #[.pointer py]) y ∧ Mod x ∧ Mod y := by
  have hpos : 0 < zs.length := by have := hml.1; omega
  have hle : zs.length ≤ 100000 := by have := hml.2.1; omega
  obtain ⟨i, hi, -, hr1⟩ := lawRest_pick b0 hpos hle
  obtain ⟨j, hj, -, hr2⟩ := lawRest_pick b1 hpos hle
  obtain ⟨bb, oo, c, px, x, e1, hc, hbb, hx, hcx, hnx⟩ := hns.at_.pick hi
  obtain ⟨bb', oo', c', py, y, e2, -, -, hy, hcy, hny⟩ := hns.at_.pick hj
  obtain ⟨rfl, -, rfl⟩ := Value.slice.inj e1
  obtain ⟨e2', -, -⟩ := Value.slice.inj e2
  obtain ⟨rfl, rfl⟩ : bb = bb' ∧ oo = oo' := by simpa using e2'
  refine ⟨x, y, px, py, bb, oo, zs.length, i, j, rfl, rfl, hc, hi, hj, hr1, hr2, fun W hb => ?_, (St.start w).adv hb2, hnx, hny, ⟨hnx.1, hml.2.2 x (List.mem_of_getElem? hx)⟩, ⟨hny.1, hml.2.2 y (List.mem_of_getElem? hy)⟩⟩
  have hs := fun q => cell_same (hb.block _ hbb) q
  exact ⟨(hs _).trans hcx, (hs _).trans hcy⟩

end Go.Proofs.Ytgchfbfgjanaiaa

namespace Go.Proofs.Ytgchfbfgjanaiaa
open Go.RowKit Sr

/-- a form has at most half as many terms as places -/
theorem under_half : ∀ (l : List T) (n : Nat), Under n l → 2 * l.length ≤ n + 1
  | [], _, _ => by simp
  | [t], n, h => by have := h.1; simp only [List.length_singleton]; omega
  | t :: s :: l, n, h => by
    have ih := under_half (s :: l) (t.2 - 1) h.2.1
    have h1 := h.1
    have h2 := h.2.2 (by simp)
    rw [List.length_cons]
    omega

/-- a number of low exponents -/
theorem part_low {x : Int} {M : Nat} (h : ∀ e ∈ exps x, e ≤ M) {e : Nat} (he : Part e x) : e ≤ M := by
  rcases part_iff.1 he with ⟨f, hf, rfl | hp⟩
  · exact h _ hf
  · have h1 := h _ hf
    have h2 := hp.lt
    simp at h2
    omega

theorem height_1023 {e : Nat} (he : e ≤ 1023) : height (e : Int) ≤ 11 := by
  have h1 : ∀ f ∈ exps (e : Int), f ≤ 10 := fun f hf => by
    have h1 := exps_pow hf
    apply Classical.byContradiction
    intro hge
    have h2 := pow_mono (show 12 ≤ f + 1 by omega)
    have h3 : (2 : Int) ^ 12 = 4096 := by decide
    simp at h1
    omega
  have h2 := height_plist _ (Nat.lt_succ_self (e : Int).natAbs)
  have h3 := nodup_sub_nat (a := plist (e : Int)) (b := List.range 11) (plist_nodup _) fun f hf => by
    have := part_low h1 (mem_plist.1 hf)
    rw [List.mem_range]; omega
  simp at h3
  omega

theorem foldr_max_le (f : Nat → Nat) (n : Nat) : ∀ l : List Nat, (∀ e ∈ l, f e ≤ n) → l.foldr (fun e m => max (f e) m) 0 ≤ n
  | [], _ => by simp
  | a :: l, h => by
    have h1 := foldr_max_le f n l fun e he => h e (by simp [he])
    have h2 := h a (by simp)
    simp only [List.foldr_cons]
    omega

theorem low_allowed {x : Int} {M : Nat} (hM : M ≤ 1023) (h : ∀ e ∈ exps x, e ≤ M) (hw : wl x ≤ 300) : Allowed x ∧ weight x ≤ 1025 ∧ height x ≤ 12 := by
  have hwt : weight x ≤ 1025 := by
    have := weight_sub (x := x) (L := List.range 1024) fun e he => by
      have := part_low h he
      rw [List.mem_range]; omega
    simpa using this
  have hht : height x ≤ 12 := by
    rw [height_eq]
    refine foldr_max_le (fun e : Nat => height (e : Int) + 1) 12 _ fun e he => ?_
    have := height_1023 (e := e) (by have := h e he; omega)
    show height (e : Int) + 1 ≤ 12
    omega
  refine ⟨⟨hw, fun e he => ?_, by omega, by omega⟩, hwt, hht⟩
  have h1 := part_low h he
  have h2 := form_length_le (x := (e : Int)) (n := 300) fun f hf => by
    have h1 := exps_pow hf
    apply Classical.byContradiction
    intro hge
    have h2 := pow_mono (show 12 ≤ f + 1 by omega)
    have h3 : (2 : Int) ^ 12 = 4096 := by decide
    simp at h1
    omega
  exact h2

/-- the terms of NumFull, and their list as a form -/
def fullT (n : Nat) (i : Nat) : Bool × Int := (i % 3 == 1, ((2 * i + n : Nat) : Int))
def fullL (n k : Nat) : List (Bool × Int) := (List.range k).map (fullT n)
def fullS (n : Nat) : Nat → List T
  | 0 => []
  | k + 1 => (k % 3 == 1, 2 * k + n) :: fullS n k
def fullV (n k : Nat) : Int := val (fullS n k)

theorem fullL_length (n k : Nat) : (fullL n k).length = k := by simp [fullL]
theorem fullS_length (n : Nat) : ∀ k, (fullS n k).length = k
  | 0 => rfl
  | k + 1 => by simp [fullS, fullS_length n k]
theorem fullL_succ (n k : Nat) : fullL n (k + 1) = fullL n k ++ [fullT n k] := by simp [fullL, List.range_succ]
theorem fullL_take (n : Nat) {j k : Nat} (h : j ≤ k) : (fullL n k).take j = fullL n j := by
  unfold fullL
  rw [← List.map_take, List.take_range, Nat.min_eq_left h]

theorem termsV_full (n : Nat) : ∀ k, termsV (fullL n k) = fullV n k
  | 0 => rfl
  | k + 1 => by
    have ih := termsV_full n k
    have h1 : termsV (fullL n (k + 1)) = termsV (fullL n k) + tv (k % 3 == 1, 2 * k + n) := by
      rw [fullL_succ]
      unfold termsV termsT
      rw [List.map_append, val_append]
      congr 1
      simp only [List.map_cons, List.map_nil, val, fullT, Int.toNat_natCast, Int.add_zero]
    rw [h1, ih]
    unfold fullV
    simp only [fullS, val]
    omega

theorem fullS_under (n : Nat) : ∀ k, Under (2 * k + n - 1) (fullS n k)
  | 0 => trivial
  | k + 1 => ⟨by simp only; omega, fullS_under n k, fun h => by
    simp only
    cases k with
    | zero => simp [fullS] at h
    | succ k => omega⟩

theorem form_full (n k : Nat) : form (fullV n k) = fullS n k := form_of ⟨_, fullS_under n k⟩ rfl
theorem wl_full (n k : Nat) : wl (fullV n k) = k := by unfold wl; rw [form_full, fullS_length]
theorem exps_full {n k : Nat} {e : Nat} (h : e ∈ exps (fullV n k)) : e + 2 ≤ 2 * k + n := by
  obtain ⟨t, ht, rfl⟩ := mem_exps.1 h
  rw [form_full] at ht
  have := under_mem _ _ (fullS_under n k) t ht
  omega
theorem full_allowed {n k : Nat} (hn : n ≤ 255) (hk : k ≤ 300) : Allowed (fullV n k) ∧ weight (fullV n k) ≤ 1025 ∧ height (fullV n k) ≤ 12 :=
  low_allowed (M := 853) (by decide) (fun e he => by have := exps_full he; omega) (by rw [wl_full]; exact hk)

theorem full_nonneg (n k : Nat) : ¬ ∃ t ∈ fullL n k, t.2 < 0 := by
  rintro ⟨t, ht, h⟩
  unfold fullL at ht
  obtain ⟨i, _, rfl⟩ := List.mem_map.1 ht
  unfold fullT at h
  simp only at h
  omega
theorem sumR_full {n k : Nat} (hn : n ≤ 255) (hk : k ≤ 300) : sumR (fullL n k) = (fullV n k, 0) := by
  unfold sumR
  rw [if_neg (full_nonneg n k), if_neg (by rw [fullL_length]; omega), termsV_full, gv_ok (full_allowed hn hk).1]
theorem sumR_full_no (n : Nat) : sumR (fullL n 301) = (0, 5) := by
  unfold sumR
  rw [if_neg (full_nonneg n _), if_neg (by rw [fullL_length]; omega), termsV_full, gv_no fun h => ?_]
  have := h.1
  rw [form_full, fullS_length] at this
  omega

theorem fullV_pos (n k : Nat) (h : (k % 3 == 1) = false) : 0 < fullV n (k + 1) := by
  have h1 : (2 : Int) ^ (2 * k + n + 1) + 1 ≤ 3 * val ((k % 3 == 1, 2 * k + n) :: fullS n k) := (val_pos (fullS_under n (k + 1))).1 h
  have h2 := two_pow_pos (2 * k + n + 1)
  have h3 : fullV n (k + 1) = val ((k % 3 == 1, 2 * k + n) :: fullS n k) := rfl
  rw [h3]
  omega

theorem full_more (n : Nat) : gv (fullV n 300 + 2 ^ (600 + n)) = (0, 5) := by
  refine gv_no fun h => ?_
  have hf : form (fullV n 300 + 2 ^ (600 + n)) = (false, 600 + n) :: fullS n 300 :=
    form_of ⟨601 + n, by show 600 + n < 601 + n; omega, (fullS_under n 300).mono (by simp only; omega), fun _ => by simp only; omega⟩ (by simp [val, tv, fullV]; omega)
  have := h.1
  rw [hf, List.length_cons, fullS_length] at this
  omega

theorem pow_small {m : Nat} (h : m ≤ 1000) : shiftR 1 (m : Int) = (2 ^ m, 0) := by
  rw [shiftR_nat, Int.mul_one]
  refine gv_ok (low_allowed (M := 1000) (by decide) (fun e he => ?_) (by unfold wl; rw [form_pow2]; simp)).1
  have : exps (2 ^ m) = [m] := by simp [exps, form_pow2]
  rw [this] at he
  simp at he
  omega

/-- two to the power of the full number -/
theorem full_pow {n : Nat} (hn : n ≤ 255) : ∃ m : Nat, (m : Int) = fullV n 300 ∧ shiftR 1 (fullV n 300) = (2 ^ m, 0) ∧ height (2 ^ m) = height (fullV n 300) + 1 ∧ wl (2 ^ m) = 1 ∧ sg (fullV n 300) = 1 := by
  have hp : 0 < fullV n 300 := fullV_pos n 299 (by decide)
  obtain ⟨h1, h2, h3⟩ := full_allowed hn (Nat.le_refl 300)
  obtain ⟨m, hm⟩ : ∃ m : Nat, (m : Int) = fullV n 300 := ⟨(fullV n 300).toNat, Int.toNat_of_nonneg (by omega)⟩
  rw [← hm] at h1 h2 h3 hp
  obtain ⟨a1, a2, a3⟩ := allowed_pow2 h1 (by omega) (by omega)
  refine ⟨m, hm, ?_, by rw [← hm]; exact a3, by unfold wl; rw [form_pow2]; rfl, ?_⟩
  · rw [← hm, shiftR_nat, Int.mul_one, gv_ok a1]
  · rw [← hm]; unfold sg; rw [if_neg (by omega), if_neg (by omega)]

/-- the tower of NumFull -/
theorem full_tower : ∃ t : Nat → Nat, t 0 = 1 ∧ (∀ k, k < 99 → shiftR 1 (t k : Int) = ((t (k + 1) : Int), (0 : Int))) ∧ (∀ k, k ≤ 99 → Allowed (t k : Int) ∧ height (t k : Int) = k + 1) ∧
    shiftR 1 (t 99 : Int) = (0, 5) ∧ gv ((t 99 : Int) - 1) = ((t 99 : Int) - 1, 0) := by
  obtain ⟨t, h0, hs⟩ : ∃ t : Nat → Nat, t 0 = 1 ∧ ∀ k, t (k + 1) = 2 ^ t k := ⟨fun k => Nat.rec 1 (fun _ r => 2 ^ r) k, rfl, fun _ => rfl⟩
  have hsi : ∀ k, ((t (k + 1) : Nat) : Int) = 2 ^ t k := fun k => by rw [hs]; simp
  have hall : ∀ k, k ≤ 99 → Allowed (t k : Int) ∧ weight (t k : Int) ≤ 66 + k ∧ height (t k : Int) = k + 1 := by
    intro k
    induction k with
    | zero =>
      intro _
      rw [h0]
      refine ⟨allowed_small (by decide), ?_, height_1⟩
      have := plist_small (x := ((1 : Nat) : Int)) (by decide)
      unfold weight
      omega
    | succ k ih =>
      intro hk
      obtain ⟨i1, i2, i3⟩ := ih (by omega)
      obtain ⟨a1, a2, a3⟩ := allowed_pow2 i1 (by omega) (by omega)
      rw [hsi]
      exact ⟨a1, by omega, by omega⟩
  have hge : ∀ k, 1 ≤ k → 2 ≤ t k := fun k hk => by
    cases k with
    | zero => omega
    | succ k =>
      rw [hs]
      have : 1 ≤ t k := by
        cases k with
        | zero => rw [h0]; exact Nat.le_refl _
        | succ k => rw [hs]; exact Nat.one_le_two_pow
      exact Nat.pow_le_pow_right (n := 2) (by decide) this
  refine ⟨t, h0, fun k hk => ?_, fun k hk => ⟨(hall k hk).1, (hall k hk).2.2⟩, ?_, ?_⟩
  · rw [shiftR_nat, Int.mul_one, ← hsi]
    exact gv_ok (hall (k + 1) (by omega)).1
  · rw [shiftR_nat, Int.mul_one]
    refine gv_no fun h => ?_
    have he : exps (2 ^ t 99) = [t 99] := by simp [exps, form_pow2]
    have h1 : height (2 ^ t 99) = height (t 99 : Int) + 1 := by rw [height_eq, he]; simp
    have h2 := (hall 99 (by omega)).2.2
    have h3 := h.2.2.2
    omega
  · obtain ⟨i1, i2, i3⟩ := hall 98 (by omega)
    rw [hsi 98]
    have h2 := hge 98 (by omega)
    have hf : form (2 ^ t 98 - 1) = [(false, t 98), (true, 0)] := form_of ⟨t 98 + 1, by simp only; omega, ⟨by simp only; omega, trivial, by simp⟩, fun _ => by simp only; omega⟩ (by simp [val, tv]; omega)
    have he : exps (2 ^ t 98 - 1) = [t 98, 0] := by simp [exps, hf]
    have hp : ∀ e, Part e (2 ^ t 98 - 1) → e = t 98 ∨ Part e (t 98 : Int) ∨ e = 0 := fun e h => by
      rw [part_iff, he] at h
      simp [not_part_zero] at h
      rcases h with (h | h) | h
      · exact .inl h
      · exact .inr (.inl h)
      · exact .inr (.inr h)
    have hwt : weight (2 ^ t 98 - 1) ≤ weight (t 98 : Int) + 2 := by
      have := weight_sub (x := 2 ^ t 98 - 1) (L := t 98 :: 0 :: plist (t 98 : Int)) fun e h => by
        rcases hp e h with rfl | h | rfl
        · simp
        · simp [mem_plist.2 h]
        · simp
      simp only [List.length_cons] at this
      unfold weight at this ⊢
      omega
    have hht : height (2 ^ t 98 - 1) = height (t 98 : Int) + 1 := by rw [height_eq, he]; simp [height_0]
    refine gv_ok ⟨by rw [hf]; simp, fun e h' => ?_, by omega, by omega⟩
    rcases hp e h' with rfl | h' | rfl
    · exact i1.1
    · exact i1.2.1 e h'
    · simp [form_zero]

theorem val_full_up (n : Nat) : ∀ k, fullV n k = 2 ^ n * fullV 0 k := fun k => by
  unfold fullV
  rw [← val_up]
  congr 1
  induction k with
  | zero => rfl
  | succ k ih => simp only [fullS, up, List.map_cons] at ih ⊢; rw [ih]; simp

/-- the product of the full number of 100 terms with itself -/
theorem full_square {n : Nat} (hn : n ≤ 255) : mulR (fullV n 100) (fullV n 100) = (fullV n 100 * fullV n 100, 0) ∧ sg (fullV n 100 * fullV n 100) = 1 := by
  have hp0 : 0 < fullV n 100 := fullV_pos n 99 (by decide)
  have hpp : 0 < fullV n 100 * fullV n 100 := Int.mul_pos hp0 hp0
  refine ⟨?_, by unfold sg; rw [if_neg (by omega), if_neg (by omega)]⟩
  unfold mulR
  rw [if_pos (by rw [wl_full]; decide)]
  refine gv_ok ?_
  obtain ⟨y, hy⟩ : ∃ y, y = fullV 0 100 := ⟨_, rfl⟩
  have hx : fullV n 100 * fullV n 100 = 2 ^ (2 * n) * (y * y) := by
    rw [val_full_up n 100, ← hy, Nat.two_mul, Int.pow_add]
    simp only [Int.mul_assoc, Int.mul_left_comm, Int.mul_comm]
  have hyb : 0 < y ∧ y < 2 ^ 200 := by
    rw [hy]
    refine ⟨fullV_pos 0 99 (by decide), ?_⟩
    have h1 := under_bound _ _ (fullS_under 0 100)
    have h2 : (2 : Int) ^ (2 * 100 + 0 - 1 + 1) = 2 ^ 200 := rfl
    rw [h2] at h1
    have h3 : val (fullS 0 100) = fullV 0 100 := rfl
    rw [h3] at h1
    have h4 := two_pow_pos 200
    generalize (2 : Int) ^ 200 = z at h1 h4 ⊢
    omega
  have hyy : 0 < y * y ∧ y * y < 2 ^ 400 := by
    refine ⟨Int.mul_pos hyb.1 hyb.1, ?_⟩
    have h1 : y * y < 2 ^ 200 * 2 ^ 200 :=
      Int.lt_of_le_of_lt (Int.mul_le_mul_of_nonneg_left (Int.le_of_lt hyb.2) (Int.le_of_lt hyb.1)) (Int.mul_lt_mul_of_pos_right hyb.2 (two_pow_pos 200))
    rw [← Int.pow_add] at h1
    exact h1
  have he : ∀ e ∈ exps (y * y), e < 401 := fun e he => by
    have h1 := exps_pow he
    apply Classical.byContradiction
    intro hge
    have h2 := pow_mono (show 402 ≤ e + 1 by omega)
    have h3 : (2 : Int) ^ 402 = 4 * 2 ^ 400 := by rw [show (402 : Nat) = 400 + 1 + 1 by rfl, pow_succ', pow_succ']; omega
    have h4 : ((y * y).natAbs : Int) = y * y := Int.natAbs_of_nonneg (Int.le_of_lt hyy.1)
    rw [h4] at h1
    have h5 := hyy.2
    generalize y * y = q at h1 h5
    generalize (2 : Int) ^ 400 = z at h3 h5
    omega
  have hw : wl (y * y) ≤ 201 := by
    obtain ⟨k, hk⟩ := form_form (y * y)
    have := under_half _ 401 (hk.cut fun t ht => he t.2 (mem_exps.2 ⟨t, ht, rfl⟩))
    unfold wl
    omega
  rw [hx]
  refine (low_allowed (M := 911) (by decide) (fun e h => ?_) ?_).1
  · rw [exps_up] at h
    obtain ⟨f, hf, rfl⟩ := List.mem_map.1 h
    have := he f hf
    omega
  · have : wl (2 ^ (2 * n) * (y * y)) = wl (y * y) := by unfold wl; rw [form_up]; simp [up]
    omega

theorem full_refused (n : Nat) : mulR (fullV n 101) (fullV n 100) = (0, 5) := by
  unfold mulR
  rw [if_neg (by rw [wl_full, wl_full]; decide)]
theorem full_kept {n : Nat} (hn : n ≤ 255) : mulR (fullV n 100) 1 = (fullV n 100, 0) := by
  unfold mulR
  rw [if_pos (by rw [wl_full]; unfold wl; rw [form_1]; decide), Int.mul_one, gv_ok (full_allowed hn (by omega)).1]

end Go.Proofs.Ytgchfbfgjanaiaa

namespace Go.Proofs.Ytgchfbfgjanaiaa
open Go.RowKit Sr

/-- blocks of other types than those of numbers and of the cells that hold them -/
def Afar (w : World) (M : Nat → Prop) : Prop := ∀ k, M k → ∀ t, TyBlk w k t → t ≠ 98 ∧ t ≠ 96 ∧ t ≠ 128 ∧ t ≠ 30

theorem Afar.apart {w : World} {M : Nat → Prop} (h : Afar w M) : Apart w M := fun k hk t ht => ⟨(h k hk t ht).1, (h k hk t ht).2.1, (h k hk t ht).2.2.1⟩

theorem own_afar {w : World} {B t s n : Nat} {v : Value} {xs : List Value} (h : w.ownsRow B t s v n xs) (ht : t ≠ 98 ∧ t ≠ 96 ∧ t ≠ 128 ∧ t ≠ 30) : Afar w (fun q => v.ownBlock = some q) := by
  intro k hk t' ⟨cs, fz, e⟩
  rcases h.2 with ⟨rfl, _⟩ | ⟨g, cap, cur, rfl, _, hg, _⟩
  · simp [Value.ownBlock] at hk
  · have : g = k := Option.some.inj hk
    subst this
    rw [hg] at e
    simp only [Option.some.injEq, Obj.cells.injEq] at e
    rw [← e.2.1]
    exact ht

theorem St.afar {w0 W W' : World} {nums : NumL} {cells : CellL} {M : Nat → Prop} (h : St w0 W nums cells) (hM : Afar W M) (hB : ∀ k, M k → w0.heap.size ≤ k) (e : Ext M W W') : St w0 W' nums cells := by
  refine ⟨below_ext h.below e hB, fun i p x hi => (h.nums_ i p x hi).apart hM.apart e, fun i k p x hi => ⟨⟨e.get (h.blk i hi) fun hk => ?_, (h.cnum i hi).apart hM.apart e⟩, (h.cells_ i k p x hi).2⟩, h.apart⟩
  exact (hM k hk _ ⟨_, _, h.blk i hi⟩).2.2.2 rfl

/-- Bytes, the value written out -/
theorem Bytes_own {w : World} {u : Value} {x : Int} (h : NumIs w u x) : Calls Try.prog 23 #[u] w fun e w' => ∃ g c, e = .returned (.slice (some ⟨g, 0, none⟩) (bytesN x).length c) ∧ w'.ownsRow w.heap.size 5 1 (.slice (some ⟨g, 0, none⟩) (bytesN x).length c) (bytesN x).length (u8s (bytesN x)) ∧ Below w.heap.size w w' :=
  (Bytes_any h).mono fun e w' q => by
    obtain ⟨a, c, rfl, ho, hb⟩ := q
    have hpos : 0 < (bytesN x).length := by unfold bytesN; simp [twoN]
    obtain ⟨g, cap, e⟩ := own_form ho hpos
    obtain ⟨rfl, -, rfl⟩ := Value.slice.inj e
    exact ⟨g, _, rfl, ho, hb⟩

theorem trow_set : ∀ (l : List (Bool × Option Addr)) (i : Nat) (t : Bool × Option Addr), i < l.length → trow (l.set i t) = ((trow l).set (i * 2) (.bool t.1)).set (i * 2 + 1) (.pointer t.2)
  | [], i, t, h => by simp at h
  | s :: l, 0, t, _ => by simp [trow]
  | s :: l, i + 1, t, h => by
    have ih := trow_set l i t (by simpa using h)
    rw [show (i + 1) * 2 = i * 2 + 1 + 1 by omega]
    simp [trow, ih]

theorem trow_set1 : ∀ (l : List (Bool × Option Addr)) (i : Nat) (t : Bool × Option Addr) (b : Bool), l[i]? = some t → trow (l.set i (b, t.2)) = (trow l).set (i * 2) (.bool b)
  | [], i, t, b, h => by simp at h
  | s :: l, 0, t, b, h => by simp at h; subst h; simp [trow]
  | s :: l, i + 1, t, b, h => by
    have ih := trow_set1 l i t b (by simpa using h)
    rw [show (i + 1) * 2 = i * 2 + 1 + 1 by omega]
    simp [trow, ih]

theorem loadR_ok {x : Int} (h : Allowed x) : loadR (bytesN x) = (x, 0) := by
  have hx : ∃ y, Allowed y ∧ bytesN y = bytesN x := ⟨x, h, rfl⟩
  unfold loadR
  rw [dif_pos hx, bytesN_inj hx.choose_spec.1 h hx.choose_spec.2]

end Go.Proofs.Ytgchfbfgjanaiaa

namespace Go.Proofs.Ytgchfbfgjanaiaa
open Go.RowKit Sr

theorem val_perm {a b : List T} (h : a.Perm b) : val a = val b := by
  induction h with
  | nil => rfl
  | cons x _ ih => simp only [val]; rw [ih]
  | swap x y l => simp only [val]; omega
  | trans _ _ ih1 ih2 => exact ih1.trans ih2

theorem termsV_perm {a b : List (Bool × Int)} (h : a.Perm b) : termsV a = termsV b := val_perm (h.map _)

theorem sumR_perm {a b : List (Bool × Int)} (h : a.Perm b) : sumR a = sumR b := by
  unfold sumR
  rw [termsV_perm h, h.length_eq]
  congr 1
  simp only [eq_iff_iff]
  constructor
  · rintro ⟨t, ht, k⟩; exact ⟨t, h.mem_iff.1 ht, k⟩
  · rintro ⟨t, ht, k⟩; exact ⟨t, h.mem_iff.2 ht, k⟩

theorem rotated {α : Type} (d : α) (l : List α) (r : Nat) (hl : 0 < l.length) : ((List.range l.length).map fun i => l.getD ((i + r) % l.length) d).Perm l := by
  obtain ⟨n, hn⟩ : ∃ n, n = l.length := ⟨_, rfl⟩
  obtain ⟨s, hs⟩ : ∃ s, s = r % n := ⟨_, rfl⟩
  have hsn : s < n := by rw [hs]; exact Nat.mod_lt _ (by omega)
  have e : ((List.range l.length).map fun i => l.getD ((i + r) % l.length) d) = l.drop s ++ l.take s := by
    apply List.ext_getElem?
    intro i
    rw [← hn]
    by_cases hi : i < n
    · rw [List.getElem?_map, List.getElem?_range hi]
      simp only [Option.map_some]
      have hm : (i + r) % n = (i + s) % n := by rw [hs]; simp
      rw [hm]
      by_cases h1 : i + s < n
      · rw [Nat.mod_eq_of_lt h1, List.getElem?_append_left (by simp; omega), List.getElem?_drop, Nat.add_comm s i]
        rw [List.getD_eq_getElem?_getD, List.getElem?_eq_getElem (by omega)]; rfl
      · have h2 : (i + s) % n = i + s - n := by rw [Nat.mod_eq_sub_mod (by omega), Nat.mod_eq_of_lt (by omega)]
        rw [h2, List.getElem?_append_right (by simp; omega)]
        simp only [List.length_drop]
        rw [List.getElem?_take_of_lt (by omega), show i - (l.length - s) = i + s - n by omega]
        rw [List.getD_eq_getElem?_getD, List.getElem?_eq_getElem (by omega)]; rfl
    · rw [List.getElem?_eq_none (by simp; omega), List.getElem?_eq_none (by simp; omega)]
  rw [e]
  exact List.perm_append_comm.trans (by rw [List.take_append_drop])

/-- a list of int8s in memory -/
def I8At (w : World) (v : Value) (l : List Int) : Prop :=
  ∃ a c, v = .slice a l.length c ∧ l.length ≤ c ∧ (∀ z ∈ l, -128 ≤ z ∧ z ≤ 127) ∧ (l ≠ [] → ∃ b o, a = some ⟨b, o, none⟩ ∧ b < w.heap.size ∧ ∀ (i : Nat) (z : Int), l[i]? = some z → w.cell? ⟨b, o + i, none⟩ = some (.int .i8 z))

theorem I8At.below {w w1 : World} {v : Value} {l : List Int} (h : I8At w v l) (e : Below w.heap.size w w1) : I8At w1 v l := by
  obtain ⟨a, c, rfl, h1, h2, h3⟩ := h
  refine ⟨a, c, rfl, h1, h2, fun hne => ?_⟩
  obtain ⟨b, o, rfl, hb, h4⟩ := h3 hne
  exact ⟨b, o, rfl, Nat.lt_of_lt_of_le hb e.size, fun i z hz => (cell_same (e.block b hb) _).trans (h4 i z hz)⟩

/-- the term that an int8 asks for -/
def ofI8 (zs : List Int) (z : Int) : Bool × Int := (decide (z < 0), zs.getD (z % (zs.length : Int)).toNat 0)

end Go.Proofs.Ytgchfbfgjanaiaa

namespace Go.Proofs.Ytgchfbfgjanaiaa
open Go.RowKit Sr

theorem alloc_drew (w : World) (o : Obj) : (w.alloc o).drew = w.drew.alloc o := rfl

theorem sg_lt_zero (x : Int) : sg x < 0 ↔ x < 0 := by
  rcases sg_cases x with ⟨h, e⟩ | ⟨h, e⟩ | ⟨h, e⟩ <;> rw [e] <;> omega

/-- two lists of terms whose blocks are apart, and cells of numbers -/
structure SP (w0 W : World) (cells : CellL) (la lb : List (Bool × Int)) (av bv : Value) : Prop where
  st : St w0 W [] cells
  a : ∃ ts, TermsOwn W w0.heap.size av la ts
  b : ∃ ts, TermsOwn W w0.heap.size bv lb ts
  apart : ∀ q, av.ownBlock = some q → bv.ownBlock ≠ some q

theorem SP.adv {w0 W W' : World} {cells : CellL} {la lb : List (Bool × Int)} {av bv : Value} (h : SP w0 W cells la lb av bv) (e : Below W.heap.size W W') : SP w0 W' cells la lb av bv := by
  obtain ⟨ta, ha⟩ := h.a
  obtain ⟨tb, hb⟩ := h.b
  exact ⟨h.st.adv e, ⟨ta, ha.below e⟩, ⟨tb, hb.below e⟩, h.apart⟩

theorem SP.new {w0 W : World} {cells : CellL} {la lb : List (Bool × Int)} {av bv : Value} {p : Option Addr} {x : Int} (h : SP w0 W cells la lb av bv) (hn : NumIs W (.agg #[.pointer p]) x) : SP w0 (W.alloc (.cells #[.pointer p] 30)) ((W.heap.size, p, x) :: cells) la lb av bv := by
  have h1 := h.adv (below_new W (.cells #[.pointer p] 30))
  exact ⟨h.st.new hn, h1.a, h1.b, h1.apart⟩

/-- a cell that a walk from W on has made -/
theorem SP.make {w0 W W' : World} {cells : CellL} {la lb : List (Bool × Int)} {av bv : Value} {k : Nat} {p : Option Addr} {x : Int} (h : SP w0 W cells la lb av bv) (s : St W W' [] [(k, p, x)]) : SP w0 W' ((k, p, x) :: cells) la lb av bv := by
  have h1 := h.adv s.below
  have hk := (s.cells_ 0 k p x rfl)
  exact ⟨h1.st.cel hk.1 (Nat.le_trans h.st.below.size hk.2) fun j hj e => by have := h.st.lt j hj; omega, h1.a, h1.b, h1.apart⟩

theorem SP.lt {w0 W : World} {cells : CellL} {la lb : List (Bool × Int)} {g n c : Nat} {bv : Value} (h : SP w0 W cells la lb (.slice (some ⟨g, 0, none⟩) n c) bv) : g < W.heap.size := by
  obtain ⟨ts, hts⟩ := h.a
  exact (hts.own.lt g rfl).2

theorem SP.drop {w0 W : World} {cells : CellL} {la lb : List (Bool × Int)} {av bv : Value} (h : SP w0 W cells la lb av bv) {cells' : CellL} (hs : ∀ t ∈ cells', t ∈ cells) (hn : (cells'.map (·.1)).Nodup) : SP w0 W cells' la lb av bv :=
  ⟨h.st.sub hs hn, h.a, h.b, h.apart⟩

theorem own_typ {w : World} {B t s n q : Nat} {v : Value} {xs : List Value} (h : w.ownsRow B t s v n xs) (hq : v.ownBlock = some q) : ∃ cs fz, w.heap[q]? = some (.cells cs t fz) := by
  rcases h.2 with ⟨rfl, _⟩ | ⟨g, cap, cur, rfl, _, hg, _⟩
  · simp [Value.ownBlock] at hq
  · have : g = q := Option.some.inj hq
    subst this
    exact ⟨_, _, hg⟩

theorem SP.put {w0 W : World} {cells : CellL} {la lb : List (Bool × Int)} {av bv : Value} (h : SP w0 W cells la lb av bv) (i : Nat) {k : Nat} {p q : Option Addr} {x z : Int} (hi : cells[i]? = some (k, p, x)) (hn : NumIs W (.agg #[.pointer q]) z) : SP w0 (W.setCell ⟨k, 0, none⟩ (.pointer q)) (cells.set i (k, q, z)) la lb av bv := by
  have hz := h.st.blk i hi
  have hx : Ext (fun j => j = k) W (W.setCell ⟨k, 0, none⟩ (.pointer q)) := (Ext.refl (fun j => j = k) W).setCell (p := ⟨k, 0, none⟩) (.inl rfl) _
  have ha : Apart W (fun j => j = k) := by
    rintro j rfl t ⟨cs, fz, e⟩
    rw [hz] at e
    simp only [Option.some.injEq, Obj.cells.injEq] at e
    rw [← e.2.1]
    decide
  have hne : ∀ {v : Value} {n : Nat} {xs : List Value}, W.ownsRow w0.heap.size 47 2 v n xs → ∀ j, v.ownBlock = some j → ¬ j = k := by
    intro v n xs ho j hj e
    subst e
    obtain ⟨cs, fz, e⟩ := own_typ ho hj
    rw [hz] at e
    simp only [Option.some.injEq, Obj.cells.injEq] at e
    exact absurd e.2.1 (by decide)
  obtain ⟨ta, h1⟩ := h.a
  obtain ⟨tb, h2⟩ := h.b
  exact ⟨h.st.put i hi hn, ⟨ta, h1.keep hx ha (hne h1.own)⟩, ⟨tb, h2.keep hx ha (hne h2.own)⟩, h.apart⟩

/-- one more term at the first list -/
theorem SP.pushA {w0 W W1 W' : World} {cells : CellL} {la lb : List (Bool × Int)} {av av' bv : Value} {ta : List (Bool × Option Addr)} {m : Bool} {p : Option Addr} {x : Int} {n : Nat} (h : SP w0 W cells la lb av bv) (hta : TermsOwn W w0.heap.size av la ta) (e : Below W.heap.size W W1) (hn : n = la.length) (hx : NumIs W (.agg #[.pointer p]) x) (hg : W1.grownBy W' av.ownBlock) (ho : W'.ownsRow w0.heap.size 47 2 av' (n + 1) (trow ta ++ [.bool m, .pointer p])) (hnew : NewOr W1 av av') : SP w0 W' cells (la ++ [(m, x)]) lb av' bv := by
  have h1 := h.adv e
  obtain ⟨tb, hb⟩ := h1.b
  have hta1 := hta.below e
  have hx2 : Ext (fun q => av.ownBlock = some q) W1 W' := ⟨hg.os, hg.tape, hg.output, hg.size, fun q hq hn => hg.block q hq fun e => hn e.symm⟩
  refine ⟨h1.st.afar (own_afar hta1.own (by decide)) (own_ge hta1.own) hx2, ⟨_, hta.push e hn (hx.below e) hg ho⟩, ⟨tb, hb.keep hx2 (own_apart hta1.own (by decide)) fun q hq hk => h1.apart q hk hq⟩, fun q hq hk => ?_⟩
  rcases hnew with h2 | ⟨k, h2, h3⟩
  · exact h1.apart q (by rw [← h2]; exact hq) hk
  · have := (hb.own.lt q hk).2
    rw [h2] at hq
    have := Option.some.inj hq
    omega

theorem TermsOwn.get {w : World} {B g n c : Nat} {l : List (Bool × Int)} {ts : List (Bool × Option Addr)} (h : TermsOwn w B (.slice (some ⟨g, 0, none⟩) n c) l ts) {i : Nat} {s : Bool × Int} (hs : l[i]? = some s) : ∃ q, w.cell? ⟨g, i * 2, none⟩ = some (.bool s.1) ∧ w.cell? ⟨g, i * 2 + 1, none⟩ = some (.pointer q) ∧ NumIs w (.agg #[.pointer q]) s.2 := by
  have hi : i < ts.length := by rw [h.len]; exact (List.getElem?_eq_some_iff.1 hs).1
  have ht : ts[i]? = some ts[i] := List.getElem?_eq_getElem hi
  obtain ⟨h1, h2⟩ := h.num i _ s ht hs
  obtain ⟨d0, d1⟩ := trow_at ts i _ ht
  exact ⟨ts[i].2, by rw [← h1]; exact own_cell h.own rfl d0, own_cell h.own rfl d1, h2⟩

/-- the last term of the first list -/
theorem SP.last {w0 W : World} {cells : CellL} {la lb : List (Bool × Int)} {g n c k : Nat} {bv : Value} {m : Bool} {x : Int} (h : SP w0 W cells (la ++ [(m, x)]) lb (.slice (some ⟨g, 0, none⟩) n c) bv) (hk : k = la.length) : ∃ q, W.cell? ⟨g, k * 2, none⟩ = some (.bool m) ∧ W.cell? ⟨g, k * 2 + 1, none⟩ = some (.pointer q) ∧ NumIs W (.agg #[.pointer q]) x := by
  obtain ⟨ts, hts⟩ := h.a
  exact hts.get (i := k) (s := (m, x)) (by rw [hk]; simp)

theorem SP.swap {w0 W : World} {cells : CellL} {la lb : List (Bool × Int)} {av bv : Value} (h : SP w0 W cells la lb av bv) : SP w0 W cells lb la bv av :=
  ⟨h.st, h.b, h.a, fun q hq hk => h.apart q hk hq⟩

/-- one round of NumSums adds a term to the sum -/
theorem sums_step {L : List (Bool × Int)} {m : Bool} {y zv xv pv yv : Int} (hr : shiftR 1 y = (zv, 0)) (hp : pv = if m = true then -zv else zv) (hg : gv (xv + pv) = (yv, 0)) (hx : xv = termsV L) : 0 ≤ y ∧ yv = termsV (L ++ [(m, y)]) := by
  obtain ⟨u, e, h1, h2⟩ := shiftR_ways 1 y
  rw [hr] at h1
  obtain ⟨rfl, rfl⟩ := Prod.mk.inj h1
  rcases h2 with ⟨-, hw, ha, hz⟩ | ⟨h, -⟩ | ⟨h, -⟩
  · have hy : 0 ≤ y := by
      have := hw (false, 0) (by rw [form_1]; simp)
      simpa using this
    refine ⟨hy, ?_⟩
    have hyn : ((y.toNat : Nat) : Int) = y := Int.toNat_of_nonneg hy
    have hz2 : zv = 2 ^ y.toNat := by
      rw [hz, ← hyn, shl_nat, hyn]; simp
    have hgy : yv = xv + pv := by
      by_cases h : Allowed (xv + pv)
      · rw [gv_ok h] at hg
        exact (Prod.mk.inj hg).1.symm
      · rw [gv_no h] at hg
        have := (Prod.mk.inj hg).2
        omega
    have ht : termsV (L ++ [(m, y)]) = termsV L + tv (m, y.toNat) := by
      unfold termsV termsT
      rw [List.map_append, val_append]
      simp [val]
    rw [ht, hgy, hx, hp, hz2]
    unfold tv
    cases m <;> simp
  · omega
  · omega

theorem ex_snoc {α : Type} (p : α → Prop) (l : List α) (a : α) : (∃ t ∈ l ++ [a], p t) ↔ (∃ t ∈ l, p t) ∨ p a := by
  constructor
  · rintro ⟨t, ht, h⟩
    rcases List.mem_append.1 ht with ht | ht
    · exact .inl ⟨t, ht, h⟩
    · obtain rfl := List.mem_singleton.1 ht; exact .inr h
  · rintro (⟨t, ht, h⟩ | h)
    · exact ⟨t, List.mem_append.2 (.inl ht), h⟩
    · exact ⟨a, by simp, h⟩

theorem map_rot {zs wh : List Int} {n r : Nat} (hn : n = wh.length) {g g' : Nat → Int} (hg : g = fun i => wh.getD i 0) (hg' : g' = fun i => wh.getD ((i + r) % n) 0) :
    ((List.range n).map fun i => ofI8 zs (g' i)).Perm ((List.range n).map fun i => ofI8 zs (g i)) := by
  subst hn
  have e1 : ((List.range wh.length).map fun i => ofI8 zs (g i)) = wh.map (ofI8 zs) := by
    apply List.ext_getElem?
    intro i
    by_cases hi : i < wh.length
    · rw [List.getElem?_map, List.getElem?_range hi, List.getElem?_map, List.getElem?_eq_getElem hi, hg]
      simp only [Option.map_some, List.getD_eq_getElem?_getD]
      rw [List.getElem?_eq_getElem hi]; rfl
    · rw [List.getElem?_eq_none (by simp; omega), List.getElem?_eq_none (by simp; omega)]
  have e2 : ((List.range wh.length).map fun i => ofI8 zs (g' i)) = ((List.range wh.length).map fun i => wh.getD ((i + r) % wh.length) 0).map (ofI8 zs) := by
    rw [List.map_map, hg']; rfl
  rw [e1, e2]
  by_cases h0 : 0 < wh.length
  · exact (rotated 0 wh r h0).map _
  · have : wh = [] := List.eq_nil_of_length_eq_zero (by omega)
    subst this
    exact List.Perm.refl _

end Go.Proofs.Ytgchfbfgjanaiaa
