/- shifts of numbers: plain laws -/
import Derived.Test.YtgchfbfgjanaiaaK02
set_option linter.unusedSimpArgs false
set_option linter.unusedVariables false
namespace Go.Proofs.Ytgchfbfgjanaiaa
open Go.RowKit Sr

theorem shl_zero (y : Int) : shl 0 y = 0 := by unfold shl shlL; rw [form_zero]; rfl

theorem whole_shl {x y z : Int} (h : Whole x y) : Whole (shl x y) z ↔ Whole x (y + z) := by
  constructor
  · intro k t ht
    have h1 := h t ht
    have h2 := k (t.1, ((t.2 : Int) + y).toNat) (by rw [form_shl h]; exact List.mem_map.2 ⟨t, ht, rfl⟩)
    simp only at h2
    omega
  · intro k t ht
    rw [form_shl h] at ht
    obtain ⟨s, hs, rfl⟩ := List.mem_map.1 ht
    have h1 := h s hs
    have h2 := k s hs
    simp only
    omega

theorem shl_shl {x y z : Int} (h : Whole x y) (k : Whole x (y + z)) : shl (shl x y) z = shl x (y + z) := by
  unfold shl
  congr 1
  show ((form (shl x y)).map _) = _
  rw [form_shl h]
  unfold shlL
  rw [List.map_map]
  apply List.map_congr_left
  intro t ht
  have h1 := h t ht
  have h2 := k t ht
  simp only [Function.comp_def]
  rw [show ((((t.2 : Int) + y).toNat : Nat) : Int) + z = (t.2 : Int) + (y + z) by omega]

theorem shl_none (x : Int) : shl x 0 = x := by have := shl_nat x 0; simpa using this

/-- back again -/
theorem shl_again {x y : Int} (h : Whole x y) : Whole (shl x y) (-y) ∧ shl (shl x y) (-y) = x := by
  have hk : Whole x (y + -y) := fun t ht => by omega
  refine ⟨(whole_shl h).2 hk, ?_⟩
  rw [shl_shl h hk, show y + -y = (0 : Int) by omega, shl_none]

/-- of a sum -/
theorem shl_sum {x z y : Int} (hx : Whole x y) (hz : Whole z y) : Whole (x + z) y ∧ shl (x + z) y = shl x y + shl z y := by
  rcases Int.lt_or_le y 0 with h | h
  · obtain ⟨n, rfl⟩ : ∃ n : Nat, y = -(n : Int) := ⟨y.natAbs, by omega⟩
    have e1 := shl_back hx
    have e2 := shl_back hz
    have e3 : x + z = 2 ^ n * (shl x (-(n : Int)) + shl z (-(n : Int))) := by rw [Int.mul_add, e1, e2]
    refine ⟨whole_iff.2 ⟨_, e3⟩, ?_⟩
    rw [e3, shl_div]
  · obtain ⟨n, rfl⟩ : ∃ n : Nat, y = (n : Int) := ⟨y.natAbs, by omega⟩
    refine ⟨whole_nat _ _, ?_⟩
    rw [shl_nat, shl_nat, shl_nat, Int.mul_add]

theorem wl_pow2 (n : Nat) : wl (2 ^ n) = 1 := by unfold wl; rw [form_pow2]; rfl

theorem shl_one (n : Nat) : shl 1 n = 2 ^ n := by rw [shl_nat, Int.mul_one]

theorem shiftR_nat (x : Int) (n : Nat) : shiftR x n = gv (2 ^ n * x) := by unfold shiftR; rw [if_pos (whole_nat x n), shl_nat]

/-- a shift to the left is a product -/
theorem mulR_pow {x : Int} (hx : Allowed x) (n : Nat) : mulR x (2 ^ n) = shiftR x n := by
  have := hx.1
  unfold mulR
  rw [wl_pow2, Nat.mul_one, if_pos (by unfold wl; omega), shiftR_nat, Int.mul_comm]

theorem shiftR_ways (x y : Int) : ∃ u e, shiftR x y = (u, e) ∧ ((e = 0 ∧ Whole x y ∧ Allowed (shl x y) ∧ u = shl x y) ∨ (e = 5 ∧ Whole x y ∧ u = 0) ∨ (e = 4 ∧ ¬ Whole x y ∧ u = 0)) := by
  unfold shiftR
  by_cases h : Whole x y
  · rw [if_pos h]
    by_cases k : Allowed (shl x y)
    · exact ⟨_, 0, gv_ok k, .inl ⟨rfl, h, k, rfl⟩⟩
    · exact ⟨0, 5, gv_no k, .inr (.inl ⟨rfl, h, rfl⟩)⟩
  · rw [if_neg h]; exact ⟨0, 4, rfl, .inr (.inr ⟨rfl, h, rfl⟩)⟩

theorem shiftR_ok {x y : Int} (h : Whole x y) (k : Allowed (shl x y)) : shiftR x y = (shl x y, 0) := by unfold shiftR; rw [if_pos h, gv_ok k]

/-- the least term decides -/
theorem whole_last {x y : Int} {t : T} (h : (form x)[wl x - 1]? = some t) : Whole x y ↔ 0 ≤ (t.2 : Int) + y := by
  constructor
  · intro k; exact k t (List.mem_of_getElem? h)
  · intro k s hs
    obtain ⟨n, hu⟩ := form_form x
    have hp : ∀ (l : List T) (n : Nat), Under n l → ∀ (i j : Nat) (a b : T), i ≤ j → l[i]? = some a → l[j]? = some b → b.2 ≤ a.2 := by
      intro l
      induction l with
      | nil => intro n _ i j a b _ ha; simp at ha
      | cons c l ih =>
        intro n hu i j a b hij ha hb
        cases i with
        | zero =>
          simp at ha; subst ha
          have := under_mem (c :: l) (c.2 + 1) ⟨by omega, hu.2⟩ b (List.mem_of_getElem? hb)
          omega
        | succ i =>
          cases j with
          | zero => omega
          | succ j => exact ih _ hu.2.1 i j a b (by omega) (by simpa using ha) (by simpa using hb)
    obtain ⟨i, hi⟩ := List.getElem?_of_mem hs
    have hil := (List.getElem?_eq_some_iff.1 hi).1
    have := hp _ _ hu i (wl x - 1) s t (by unfold wl; omega) hi h
    omega

theorem whole_zero (y : Int) : Whole 0 y := fun t ht => by rw [form_zero] at ht; simp at ht

end Go.Proofs.Ytgchfbfgjanaiaa
