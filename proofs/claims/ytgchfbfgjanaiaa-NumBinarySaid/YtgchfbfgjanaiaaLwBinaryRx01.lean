/-
  lists of factors of powers of two: plain
  shifts of numbers: plain laws
  powers of two: plain laws; two numbers out of those that are made
  numbers stay while other memory of the call's own is written
  sums in another order: plain laws; lists of int8s in memory
  plain facts of the numbers of NumFull
  packs of powers of two: plain
  the numbers of NumBinary: plain
  sandreckonerref01: Carry
  sandreckonerref01.Signed
-/
import Derived.Test.YtgchfbfgjanaiaaJ04
import Derived.Test.YtgchfbfgjanaiaaK02
import Derived.Deep.LoopGhost
import Derived.Deep.DeepCutAuto
import Derived.Deep.CutBlock
import Derived.Test.YtgchfbfgjanaiaaJ07
set_option linter.unusedSimpArgs false
set_option linter.unusedVariables false
namespace Go.Proofs.Ytgchfbfgjanaiaa
open Go.RowKit Sr

/-- the value of a list of factors -/
def vl : List Int → Int
  | [] => 0
  | z :: l => z + 2 * vl l

theorem vl_append (a b : List Int) : vl (a ++ b) = vl a + 2 ^ a.length * vl b := by
  induction a with
  | nil => simp [vl]
  | cons z a ih =>
    simp only [List.cons_append, vl, ih, List.length_cons]
    rw [show ((2 : Int) ^ (a.length + 1)) = 2 * 2 ^ a.length by rw [Int.pow_succ, Int.mul_comm]]
    rw [Int.mul_add, Int.mul_assoc]
    omega

/-- carrying: the digits, and what is left -/
def car (c : Int) : List Int → List Int × Int
  | [] => ([], c)
  | z :: l => ((z + c) % 2 :: (car ((z + c) / 2) l).1, (car ((z + c) / 2) l).2)

theorem car_length (l : List Int) : ∀ c, (car c l).1.length = l.length := by
  induction l with
  | nil => intro c; rfl
  | cons z l ih => intro c; simp [car, ih]
theorem car_snoc (l : List Int) (z : Int) : ∀ c, car c (l ++ [z]) = ((car c l).1 ++ [(z + (car c l).2) % 2], (z + (car c l).2) / 2) := by
  induction l with
  | nil => intro c; rfl
  | cons y l ih => intro c; simp [car, ih]
theorem car_vl (l : List Int) : ∀ c, vl l + c = vl (car c l).1 + 2 ^ l.length * (car c l).2 := by
  induction l with
  | nil => intro c; simp [car, vl]
  | cons z l ih =>
    intro c
    have := ih ((z + c) / 2)
    simp only [car, vl, List.length_cons]
    rw [show ((2 : Int) ^ (l.length + 1)) = 2 * 2 ^ l.length by rw [Int.pow_succ, Int.mul_comm], Int.mul_assoc]
    omega
theorem car_digit (l : List Int) : ∀ c, ∀ d ∈ (car c l).1, d = 0 ∨ d = 1 := by
  induction l with
  | nil => intro c d h; simp [car] at h
  | cons z l ih =>
    intro c d h
    simp only [car, List.mem_cons] at h
    rcases h with rfl | h
    · omega
    · exact ih _ d h
theorem car_bound {B : Int} (l : List Int) : ∀ c, (∀ z ∈ l, -B ≤ z ∧ z ≤ B) → -B ≤ c ∧ c ≤ B → -B ≤ (car c l).2 ∧ (car c l).2 ≤ B := by
  induction l with
  | nil => intro c _ h; exact h
  | cons z l ih =>
    intro c h hc
    have h1 := h z (by simp)
    exact ih _ (fun y hy => h y (by simp [hy])) (by omega)

theorem vl_digits (l : List Int) (h : ∀ d ∈ l, d = 0 ∨ d = 1) : 0 ≤ vl l ∧ vl l < 2 ^ l.length ∧ (vl l = 0 ↔ ∀ d ∈ l, d = 0) := by
  induction l with
  | nil => simp [vl]
  | cons z l ih =>
    obtain ⟨h1, h2, h3⟩ := ih fun d hd => h d (by simp [hd])
    have hz := h z (by simp)
    refine ⟨by simp only [vl]; omega, ?_, ?_⟩
    · simp only [vl, List.length_cons]
      rw [show ((2 : Int) ^ (l.length + 1)) = 2 * 2 ^ l.length by rw [Int.pow_succ, Int.mul_comm]]
      omega
    · simp only [vl, List.mem_cons, forall_eq_or_imp]
      rw [← h3]
      omega

theorem two_pow_ge (n : Nat) : (1 : Int) ≤ 2 ^ n := by
  induction n with
  | zero => simp
  | succ n ih => rw [Int.pow_succ]; omega

/-- the sign, as the program finds it -/
theorem signed_neg {l : List Int} (h : (car 0 l).2 < 0) : vl l < 0 := by
  have h1 := car_vl l 0
  obtain ⟨h2, h3, -⟩ := vl_digits _ (car_digit l 0)
  rw [car_length] at h3
  have h4 := two_pow_ge l.length
  have h5 : (2 : Int) ^ l.length * (car 0 l).2 ≤ 2 ^ l.length * (-1) := Int.mul_le_mul_of_nonneg_left (by omega) (by omega)
  omega
theorem signed_pos {l : List Int} (h : 0 < (car 0 l).2) : 0 < vl l := by
  have h1 := car_vl l 0
  obtain ⟨h2, h3, -⟩ := vl_digits _ (car_digit l 0)
  have h4 := two_pow_ge l.length
  have h5 : (2 : Int) ^ l.length * 1 ≤ 2 ^ l.length * (car 0 l).2 := Int.mul_le_mul_of_nonneg_left (by omega) (by omega)
  omega
theorem signed_some {l : List Int} (h : (car 0 l).2 = 0) {d : Int} (hd : d ∈ (car 0 l).1) (h0 : d ≠ 0) : 0 < vl l := by
  have h1 := car_vl l 0
  obtain ⟨h2, h3, h4⟩ := vl_digits _ (car_digit l 0)
  rw [h, Int.mul_zero] at h1
  have h5 : vl (car 0 l).1 ≠ 0 := fun e => h0 (h4.1 e d hd)
  omega
theorem signed_zero {l : List Int} (h : (car 0 l).2 = 0) (hd : ∀ d ∈ (car 0 l).1, d = 0) : vl l = 0 := by
  have h1 := car_vl l 0
  obtain ⟨h2, h3, h4⟩ := vl_digits _ (car_digit l 0)
  rw [h, Int.mul_zero, h4.2 hd] at h1
  omega

/-- one factor is written -/
theorem vl_set (l : List Int) : ∀ (i : Nat) (z y : Int), l[i]? = some y → vl (l.set i z) = vl l + 2 ^ i * (z - y) := by
  induction l with
  | nil => intro i z y h; simp at h
  | cons x l ih =>
    intro i z y h
    cases i with
    | zero =>
      simp at h
      subst h
      simp only [List.set_cons_zero, vl, Int.pow_zero, Int.one_mul]
      omega
    | succ i =>
      have := ih i z y (by simpa using h)
      simp only [List.set_cons_succ, vl, this]
      rw [show ((2 : Int) ^ (i + 1)) = 2 * 2 ^ i by rw [Int.pow_succ, Int.mul_comm], Int.mul_assoc]
      omega
theorem vl_zeros (n : Nat) : vl (List.replicate n 0) = 0 := by
  induction n with
  | zero => rfl
  | succ n ih => simp [List.replicate_succ, vl, ih]
theorem vl_take {l : List Int} {k : Nat} {z : Int} (h : l[k]? = some z) : vl (l.take (k + 1)) = vl (l.take k) + 2 ^ k * z := by
  rw [take_snoc h, vl_append]
  have hk := (List.getElem?_eq_some_iff.1 h).1
  rw [List.length_take, Nat.min_eq_left (by omega)]
  simp [vl]

/-- the cells of integers -/
def zrow (l : List Int) : List Value := l.map fun z => Value.int .i64 z
theorem zrow_length (l : List Int) : (zrow l).length = l.length := by simp [zrow]
theorem zrow_append (a b : List Int) : zrow (a ++ b) = zrow a ++ zrow b := by simp [zrow]
theorem zrow_get {l : List Int} {k : Nat} {z : Int} (h : l[k]? = some z) : (zrow l)[k]? = some (.int .i64 z) := by unfold zrow; rw [List.getElem?_map, h]; rfl
theorem zrow_set (l : List Int) (k : Nat) (z : Int) : zrow (l.set k z) = (zrow l).set k (.int .i64 z) := by unfold zrow; rw [List.map_set]

/-- a slice of integers in memory -/
structure IntsAt (w : World) (v : Value) (l : List Int) : Prop where
  len : l.length ≤ 1000000
  at_ : ∃ a c, v = .slice a l.length c ∧ l.length ≤ c ∧ (l ≠ [] → ∃ b o, a = some ⟨b, o, none⟩ ∧ b < w.heap.size ∧ ∀ (i : Nat) (z : Int), l[i]? = some z → w.cell? ⟨b, o + i, none⟩ = some (.int .i64 z))

theorem IntsAt.below {w w1 : World} {v : Value} {l : List Int} (h : IntsAt w v l) (e : Below w.heap.size w w1) : IntsAt w1 v l := by
  obtain ⟨a, c, h1, h2, h3⟩ := h.at_
  refine ⟨h.len, a, c, h1, h2, fun hl => ?_⟩
  obtain ⟨b, o, q1, q2, q3⟩ := h3 hl
  exact ⟨b, o, q1, Nat.lt_of_lt_of_le q2 e.size, fun i z hz => (cell_same (e.block b q2) _).trans (q3 i z hz)⟩
theorem IntsAt.of_own {w : World} {B : Nat} {v : Value} {l : List Int} (h : w.ownsRow B 3 1 v l.length (zrow l)) (hl : l.length ≤ 1000000) : IntsAt w v l := by
  refine ⟨hl, ?_⟩
  rcases h.2 with ⟨rfl, h0⟩ | ⟨g, cap, cur, rfl, hb, hg, hn, hc, hs, ht⟩
  · exact ⟨none, 0, by rw [h0], by omega, fun hne => absurd (List.eq_nil_of_length_eq_zero h0) hne⟩
  · refine ⟨_, cap, rfl, hn, fun _ => ⟨g, 0, rfl, lt_of_blk hg, fun i z hz => ?_⟩⟩
    rw [Nat.zero_add]
    exact own_cell h rfl (zrow_get hz)
theorem IntsAt.nil (w : World) : IntsAt w (.slice none 0 0) [] := ⟨by simp, none, 0, rfl, by simp, fun h => absurd rfl h⟩
theorem IntsAt.len' {w : World} {v : Value} {l : List Int} (h : IntsAt w v l) : ∃ a c, v = .slice a l.length c ∧ l.length ≤ c := by
  obtain ⟨a, c, h1, h2, _⟩ := h.at_; exact ⟨a, c, h1, h2⟩
theorem IntsAt.cell {w : World} {a : Option Addr} {n c : Nat} {l : List Int} (h : IntsAt w (.slice a n c) l) {k : Nat} {z : Int} (hk : l[k]? = some z) : ∃ b o, a = some ⟨b, o, none⟩ ∧ w.cell? ⟨b, o + k, none⟩ = some (.int .i64 z) := by
  obtain ⟨a', c', e, h2, h3⟩ := h.at_
  obtain ⟨rfl, -, rfl⟩ := Value.slice.inj e
  obtain ⟨b, o, q1, q2, q3⟩ := h3 (by intro e; rw [e] at hk; simp at hk)
  exact ⟨b, o, q1, q3 k z hk⟩

theorem mod_two (v : Int) : (v.tmod 2 + 2).tmod 2 = v % 2 := by
  have h1 := Int.tmod_lt_of_pos v (b := 2) (by decide)
  have h2 := Int.tmod_lt_of_pos (-v) (b := 2) (by decide)
  rw [Int.neg_tmod] at h2
  rw [Int.tmod_eq_emod_of_nonneg (by omega), Int.add_emod_right]
  have h3 : v = 2 * v.tdiv 2 + v.tmod 2 := (Int.mul_tdiv_add_tmod v 2).symm
  omega
theorem div_two (v : Int) : (v - v % 2).tdiv 2 = v / 2 := by
  have h : v - v % 2 = 2 * (v / 2) := by omega
  rw [h, Int.mul_tdiv_cancel_left _ (by decide)]

end Go.Proofs.Ytgchfbfgjanaiaa

namespace Go.Proofs.Ytgchfbfgjanaiaa
open Go.RowKit Sr

theorem shl_zero (y : Int) : shl 0 y = 0 := by unfold shl shlL; rw [form_zero]; rfl

theorem whole_shl {x y z : Int} (h : Whole x y) : Whole (shl x y) z ↔ Whole x (y + z) := by
  constructor
  · intro k t ht
    have h1 := h t ht
    have h2 := k (t.1, ((t.2 : Int) + y).toNat) (by rw [form_shl h]; exact List.mem_map.2 ⟨t, ht, rfl⟩)
    simp only at h2
    omega
  · intro k t ht
    rw [form_shl h] at ht
    obtain ⟨s, hs, rfl⟩ := List.mem_map.1 ht
    have h1 := h s hs
    have h2 := k s hs
    simp only
    omega

theorem shl_shl {x y z : Int} (h : Whole x y) (k : Whole x (y + z)) : shl (shl x y) z = shl x (y + z) := by
  unfold shl
  congr 1
  show ((form (shl x y)).map _) = _
  rw [form_shl h]
  unfold shlL
  rw [List.map_map]
  apply List.map_congr_left
  intro t ht
  have h1 := h t ht
  have h2 := k t ht
  simp only [Function.comp_def]
  rw [show ((((t.2 : Int) + y).toNat : Nat) : Int) + z = (t.2 : Int) + (y + z) by omega]

theorem shl_none (x : Int) : shl x 0 = x := by have := shl_nat x 0; simpa using this

/-- back again -/
theorem shl_again {x y : Int} (h : Whole x y) : Whole (shl x y) (-y) ∧ shl (shl x y) (-y) = x := by
  have hk : Whole x (y + -y) := fun t ht => by omega
  refine ⟨(whole_shl h).2 hk, ?_⟩
  rw [shl_shl h hk, show y + -y = (0 : Int) by omega, shl_none]

/-- of a sum -/
theorem shl_sum {x z y : Int} (hx : Whole x y) (hz : Whole z y) : Whole (x + z) y ∧ shl (x + z) y = shl x y + shl z y := by
  rcases Int.lt_or_le y 0 with h | h
  · obtain ⟨n, rfl⟩ : ∃ n : Nat, y = -(n : Int) := ⟨y.natAbs, by omega⟩
    have e1 := shl_back hx
    have e2 := shl_back hz
    have e3 : x + z = 2 ^ n * (shl x (-(n : Int)) + shl z (-(n : Int))) := by rw [Int.mul_add, e1, e2]
    refine ⟨whole_iff.2 ⟨_, e3⟩, ?_⟩
    rw [e3, shl_div]
  · obtain ⟨n, rfl⟩ : ∃ n : Nat, y = (n : Int) := ⟨y.natAbs, by omega⟩
    refine ⟨whole_nat _ _, ?_⟩
    rw [shl_nat, shl_nat, shl_nat, Int.mul_add]

theorem wl_pow2 (n : Nat) : wl (2 ^ n) = 1 := by unfold wl; rw [form_pow2]; rfl

theorem shl_one (n : Nat) : shl 1 n = 2 ^ n := by rw [shl_nat, Int.mul_one]

theorem shiftR_nat (x : Int) (n : Nat) : shiftR x n = gv (2 ^ n * x) := by unfold shiftR; rw [if_pos (whole_nat x n), shl_nat]

/-- a shift to the left is a product -/
theorem mulR_pow {x : Int} (hx : Allowed x) (n : Nat) : mulR x (2 ^ n) = shiftR x n := by
  have := hx.1
  unfold mulR
  rw [wl_pow2, Nat.mul_one, if_pos (by unfold wl; omega), shiftR_nat, Int.mul_comm]

theorem shiftR_ways (x y : Int) : ∃ u e, shiftR x y = (u, e) ∧ ((e = 0 ∧ Whole x y ∧ Allowed (shl x y) ∧ u = shl x y) ∨ (e = 5 ∧ Whole x y ∧ u = 0) ∨ (e = 4 ∧ ¬ Whole x y ∧ u = 0)) := by
  unfold shiftR
  by_cases h : Whole x y
  · rw [if_pos h]
    by_cases k : Allowed (shl x y)
    · exact ⟨_, 0, gv_ok k, .inl ⟨rfl, h, k, rfl⟩⟩
    · exact ⟨0, 5, gv_no k, .inr (.inl ⟨rfl, h, rfl⟩)⟩
  · rw [if_neg h]; exact ⟨0, 4, rfl, .inr (.inr ⟨rfl, h, rfl⟩)⟩

theorem shiftR_ok {x y : Int} (h : Whole x y) (k : Allowed (shl x y)) : shiftR x y = (shl x y, 0) := by unfold shiftR; rw [if_pos h, gv_ok k]

/-- the least term decides -/
theorem whole_last {x y : Int} {t : T} (h : (form x)[wl x - 1]? = some t) : Whole x y ↔ 0 ≤ (t.2 : Int) + y := by
  constructor
  · intro k; exact k t (List.mem_of_getElem? h)
  · intro k s hs
    obtain ⟨n, hu⟩ := form_form x
    have hp : ∀ (l : List T) (n : Nat), Under n l → ∀ (i j : Nat) (a b : T), i ≤ j → l[i]? = some a → l[j]? = some b → b.2 ≤ a.2 := by
      intro l
      induction l with
      | nil => intro n _ i j a b _ ha; simp at ha
      | cons c l ih =>
        intro n hu i j a b hij ha hb
        cases i with
        | zero =>
          simp at ha; subst ha
          have := under_mem (c :: l) (c.2 + 1) ⟨by omega, hu.2⟩ b (List.mem_of_getElem? hb)
          omega
        | succ i =>
          cases j with
          | zero => omega
          | succ j => exact ih _ hu.2.1 i j a b (by omega) (by simpa using ha) (by simpa using hb)
    obtain ⟨i, hi⟩ := List.getElem?_of_mem hs
    have hil := (List.getElem?_eq_some_iff.1 hi).1
    have := hp _ _ hu i (wl x - 1) s t (by unfold wl; omega) hi h
    omega

theorem whole_zero (y : Int) : Whole 0 y := fun t ht => by rw [form_zero] at ht; simp at ht

end Go.Proofs.Ytgchfbfgjanaiaa

namespace Go.Proofs.Ytgchfbfgjanaiaa
open Go.RowKit Sr

theorem natAbs_mod {x : Int} (h : Mod x) : Mod (x.natAbs : Int) := by
  rcases Int.natAbs_eq x with e | e
  · rw [← e]; exact h
  · have e2 : ((x.natAbs : Nat) : Int) = -x := by omega
    rw [e2]
    refine ⟨allowed_neg h.1, by rw [wl_neg]; exact h.2.1, ?_⟩
    have := h.2.2
    unfold weight at this ⊢
    rw [plist_neg]; exact this

theorem pow_ways {n : Nat} (h : Mod (n : Int)) : (gv (2 ^ n) = (2 ^ n, 0) ∧ Allowed (2 ^ n) ∧ height (2 ^ n) = height (n : Int) + 1 ∧ height (n : Int) ≤ 99) ∨ (gv (2 ^ n) = (0, 5) ∧ height (n : Int) = 100) := by
  have hh := h.1.2.2.2
  by_cases k : height (n : Int) + 1 ≤ 100
  · obtain ⟨h1, h2, h3⟩ := allowed_pow2 h.1 (by have := h.2.2; omega) k
    exact .inl ⟨gv_ok h1, h1, h3, by omega⟩
  · refine .inr ⟨gv_no fun ha => ?_, by omega⟩
    have he : exps (2 ^ n) = [n] := by simp [exps, form_pow2]
    have : height (2 ^ n) = height (n : Int) + 1 := by rw [height_eq, he]; simp
    have := ha.2.2.2
    omega

theorem sg_pow_self (n : Nat) : sg (2 ^ n - (n : Int)) = 1 := by
  have := lt_two_pow n
  unfold sg
  rw [if_neg (by omega), if_neg (by omega)]

theorem pow_lt {a b : Nat} (h : a < b) : (2 : Int) ^ a < 2 ^ b := by
  have h1 := pow_mono (show a + 1 ≤ b by omega)
  rw [pow_succ'] at h1
  have := two_pow_pos a
  omega

theorem sg_pow_pow (n k : Nat) : sg (2 ^ n - 2 ^ k) = sg ((n : Int) - (k : Int)) := by
  unfold sg
  rcases Nat.lt_trichotomy n k with h | h | h
  · have := pow_lt h
    rw [if_pos (by omega), if_pos (by omega)]
  · subst h; simp
  · have := pow_lt h
    rw [if_neg (by omega), if_neg (by omega), if_neg (by omega), if_neg (by omega)]

theorem sg_pow_more (n k : Nat) : sg (2 ^ n + 2 ^ k - 2 ^ n) = 1 ∧ sg (2 ^ n + 2 ^ k - 2 ^ k) = 1 := by
  have h1 := two_pow_pos n
  have h2 := two_pow_pos k
  unfold sg
  exact ⟨by rw [if_neg (by omega), if_neg (by omega)], by rw [if_neg (by omega), if_neg (by omega)]⟩

theorem termsZ_pow (n : Nat) : termsZ (2 ^ n) = [(false, (n : Int))] := by unfold termsZ; rw [form_pow2]; rfl

theorem pick_two {w W2 : World} {av : Option Addr} {cv : Nat} {zs : List Int} {ps : List (Option Addr)} (hns : NsOwn W2 w.heap.size (.slice av zs.length cv) zs ps) (hml : MadeL zs) (hb2 : Below w.heap.size w W2) (b0 b1 : Int) :
    ∃ (x y : Int) (px py : Option Addr) (bb oo m i j : Nat), av = some ⟨bb, oo, none⟩ ∧ m = zs.length ∧ m ≤ cv ∧ i < m ∧ j < m ∧
      (∀ W, Calls Try.prog 46 #[.int .i64 b0, .int .i64 (m : Int)] W fun e w' => e = .returned (.int .i64 (i : Int)) ∧ w' = W) ∧
      (∀ W, Calls Try.prog 46 #[.int .i64 b1, .int .i64 (m : Int)] W fun e w' => e = .returned (.int .i64 (j : Int)) ∧ w' = W) ∧
      (∀ W, Below W2.heap.size W2 W → W.cell? ⟨bb, oo + i, none⟩ = some (.pointer px) ∧ W.cell? ⟨bb, oo + j, none⟩ = some (.pointer py)) ∧
      St w W2 [] [] ∧ NumIs W2 (.agg #[.pointer px]) x ∧ NumIs W2 (.agg #[.pointer py]) y ∧ Mod x ∧ Mod y := by
  have hpos : 0 < zs.length := by have := hml.1; omega
  have hle : zs.length ≤ 100000 := by have := hml.2.1; omega
  obtain ⟨i, hi, -, hr1⟩ := lawRest_pick b0 hpos hle
  obtain ⟨j, hj, -, hr2⟩ := lawRest_pick b1 hpos hle
  obtain ⟨bb, oo, c, px, x, e1, hc, hbb, hx, hcx, hnx⟩ := hns.at_.pick hi
  obtain ⟨bb', oo', c', py, y, e2, -, -, hy, hcy, hny⟩ := hns.at_.pick hj
  obtain ⟨rfl, -, rfl⟩ := Value.slice.inj e1
  obtain ⟨e2', -, -⟩ := Value.slice.inj e2
  obtain ⟨rfl, rfl⟩ : bb = bb' ∧ oo = oo' := by simpa using e2'
  refine ⟨x, y, px, py, bb, oo, zs.length, i, j, rfl, rfl, hc, hi, hj, hr1, hr2, fun W hb => ?_, (St.start w).adv hb2, hnx, hny, ⟨hnx.1, hml.2.2 x (List.mem_of_getElem? hx)⟩, ⟨hny.1, hml.2.2 y (List.mem_of_getElem? hy)⟩⟩
  have hs := fun q => cell_same (hb.block _ hbb) q
  exact ⟨(hs _).trans hcx, (hs _).trans hcy⟩

end Go.Proofs.Ytgchfbfgjanaiaa

namespace Go.Proofs.Ytgchfbfgjanaiaa
open Go.RowKit Sr

/-- blocks of other types than those of numbers and of the cells that hold them -/
def Afar (w : World) (M : Nat → Prop) : Prop := ∀ k, M k → ∀ t, TyBlk w k t → t ≠ 98 ∧ t ≠ 96 ∧ t ≠ 128 ∧ t ≠ 30

theorem Afar.apart {w : World} {M : Nat → Prop} (h : Afar w M) : Apart w M := fun k hk t ht => ⟨(h k hk t ht).1, (h k hk t ht).2.1, (h k hk t ht).2.2.1⟩

theorem own_afar {w : World} {B t s n : Nat} {v : Value} {xs : List Value} (h : w.ownsRow B t s v n xs) (ht : t ≠ 98 ∧ t ≠ 96 ∧ t ≠ 128 ∧ t ≠ 30) : Afar w (fun q => v.ownBlock = some q) := by
  intro k hk t' ⟨cs, fz, e⟩
  rcases h.2 with ⟨rfl, _⟩ | ⟨g, cap, cur, rfl, _, hg, _⟩
  · simp [Value.ownBlock] at hk
  · have : g = k := Option.some.inj hk
    subst this
    rw [hg] at e
    simp only [Option.some.injEq, Obj.cells.injEq] at e
    rw [← e.2.1]
    exact ht

theorem St.afar {w0 W W' : World} {nums : NumL} {cells : CellL} {M : Nat → Prop} (h : St w0 W nums cells) (hM : Afar W M) (hB : ∀ k, M k → w0.heap.size ≤ k) (e : Ext M W W') : St w0 W' nums cells := by
  refine ⟨below_ext h.below e hB, fun i p x hi => (h.nums_ i p x hi).apart hM.apart e, fun i k p x hi => ⟨⟨e.get (h.blk i hi) fun hk => ?_, (h.cnum i hi).apart hM.apart e⟩, (h.cells_ i k p x hi).2⟩, h.apart⟩
  exact (hM k hk _ ⟨_, _, h.blk i hi⟩).2.2.2 rfl

/-- Bytes, the value written out -/
theorem Bytes_own {w : World} {u : Value} {x : Int} (h : NumIs w u x) : Calls Try.prog 23 #[u] w fun e w' => ∃ g c, e = .returned (.slice (some ⟨g, 0, none⟩) (bytesN x).length c) ∧ w'.ownsRow w.heap.size 5 1 (.slice (some ⟨g, 0, none⟩) (bytesN x).length c) (bytesN x).length (u8s (bytesN x)) ∧ Below w.heap.size w w' :=
  (Bytes_any h).mono fun e w' q => by
    obtain ⟨a, c, rfl, ho, hb⟩ := q
    have hpos : 0 < (bytesN x).length := by unfold bytesN; simp [twoN]
    obtain ⟨g, cap, e⟩ := own_form ho hpos
    obtain ⟨rfl, -, rfl⟩ := Value.slice.inj e
    exact ⟨g, _, rfl, ho, hb⟩

theorem trow_set : ∀ (l : List (Bool × Option Addr)) (i : Nat) (t : Bool × Option Addr), i < l.length → trow (l.set i t) = ((trow l).set (i * 2) (.bool t.1)).set (i * 2 + 1) (.pointer t.2)
  | [], i, t, h => by simp at h
  | s :: l, 0, t, _ => by simp [trow]
  | s :: l, i + 1, t, h => by
    have ih := trow_set l i t (by simpa using h)
    rw [show (i + 1) * 2 = i * 2 + 1 + 1 by omega]
    simp [trow, ih]

theorem trow_set1 : ∀ (l : List (Bool × Option Addr)) (i : Nat) (t : Bool × Option Addr) (b : Bool), l[i]? = some t → trow (l.set i (b, t.2)) = (trow l).set (i * 2) (.bool b)
  | [], i, t, b, h => by simp at h
  | s :: l, 0, t, b, h => by simp at h; subst h; simp [trow]
  | s :: l, i + 1, t, b, h => by
    have ih := trow_set1 l i t b (by simpa using h)
    rw [show (i + 1) * 2 = i * 2 + 1 + 1 by omega]
    simp [trow, ih]

theorem loadR_ok {x : Int} (h : Allowed x) : loadR (bytesN x) = (x, 0) := by
  have hx : ∃ y, Allowed y ∧ bytesN y = bytesN x := ⟨x, h, rfl⟩
  unfold loadR
  rw [dif_pos hx, bytesN_inj hx.choose_spec.1 h hx.choose_spec.2]

end Go.Proofs.Ytgchfbfgjanaiaa

namespace Go.Proofs.Ytgchfbfgjanaiaa
open Go.RowKit Sr

theorem val_perm {a b : List T} (h : a.Perm b) : val a = val b := by
  induction h with
  | nil => rfl
  | cons x _ ih => simp only [val]; rw [ih]
  | swap x y l => simp only [val]; omega
  | trans _ _ ih1 ih2 => exact ih1.trans ih2

theorem termsV_perm {a b : List (Bool × Int)} (h : a.Perm b) : termsV a = termsV b := val_perm (h.map _)

theorem sumR_perm {a b : List (Bool × Int)} (h : a.Perm b) : sumR a = sumR b := by
  unfold sumR
  rw [termsV_perm h, h.length_eq]
  congr 1
  simp only [eq_iff_iff]
  constructor
  · rintro ⟨t, ht, k⟩; exact ⟨t, h.mem_iff.1 ht, k⟩
  · rintro ⟨t, ht, k⟩; exact ⟨t, h.mem_iff.2 ht, k⟩

theorem rotated {α : Type} (d : α) (l : List α) (r : Nat) (hl : 0 < l.length) : ((List.range l.length).map fun i => l.getD ((i + r) % l.length) d).Perm l := by
  obtain ⟨n, hn⟩ : ∃ n, n = l.length := ⟨_, rfl⟩
  obtain ⟨s, hs⟩ : ∃ s, s = r % n := ⟨_, rfl⟩
  have hsn : s < n := by rw [hs]; exact Nat.mod_lt _ (by omega)
  have e : ((List.range l.length).map fun i => l.getD ((i + r) % l.length) d) = l.drop s ++ l.take s := by
    apply List.ext_getElem?
    intro i
    rw [← hn]
    by_cases hi : i < n
    · rw [List.getElem?_map, List.getElem?_range hi]
      simp only [Option.map_some]
      have hm : (i + r) % n = (i + s) % n := by rw [hs]; simp
      rw [hm]
      by_cases h1 : i + s < n
      · rw [Nat.mod_eq_of_lt h1, List.getElem?_append_left (by simp; omega), List.getElem?_drop, Nat.add_comm s i]
        rw [List.getD_eq_getElem?_getD, List.getElem?_eq_getElem (by omega)]; rfl
      · have h2 : (i + s) % n = i + s - n := by rw [Nat.mod_eq_sub_mod (by omega), Nat.mod_eq_of_lt (by omega)]
        rw [h2, List.getElem?_append_right (by simp; omega)]
        simp only [List.length_drop]
        rw [List.getElem?_take_of_lt (by omega), show i - (l.length - s) = i + s - n by omega]
        rw [List.getD_eq_getElem?_getD, List.getElem?_eq_getElem (by omega)]; rfl
    · rw [List.getElem?_eq_none (by simp; omega), List.getElem?_eq_none (by simp; omega)]
  rw [e]
  exact List.perm_append_comm.trans (by rw [List.take_append_drop])

/-- a list of int8s in memory -/
def I8At (w : World) (v : Value) (l : List Int) : Prop :=
  ∃ a c, v = .slice a l.length c ∧ l.length ≤ c ∧ (∀ z ∈ l, -128 ≤ z ∧ z ≤ 127) ∧ (l ≠ [] → ∃ b o, a = some ⟨b, o, none⟩ ∧ b < w.heap.size ∧ ∀ (i : Nat) (z : Int), l[i]? = some z → w.cell? ⟨b, o + i, none⟩ = some (.int .i8 z))

theorem I8At.below {w w1 : World} {v : Value} {l : List Int} (h : I8At w v l) (e : Below w.heap.size w w1) : I8At w1 v l := by
  obtain ⟨a, c, rfl, h1, h2, h3⟩ := h
  refine ⟨a, c, rfl, h1, h2, fun hne => ?_⟩
  obtain ⟨b, o, rfl, hb, h4⟩ := h3 hne
  exact ⟨b, o, rfl, Nat.lt_of_lt_of_le hb e.size, fun i z hz => (cell_same (e.block b hb) _).trans (h4 i z hz)⟩

/-- the term that an int8 asks for -/
def ofI8 (zs : List Int) (z : Int) : Bool × Int := (decide (z < 0), zs.getD (z % (zs.length : Int)).toNat 0)

end Go.Proofs.Ytgchfbfgjanaiaa

namespace Go.Proofs.Ytgchfbfgjanaiaa
open Go.RowKit Sr

/-- a form has at most half as many terms as places -/
theorem under_half : ∀ (l : List T) (n : Nat), Under n l → 2 * l.length ≤ n + 1
  | [], _, _ => by simp
  | [t], n, h => by have := h.1; simp only [List.length_singleton]; omega
  | t :: s :: l, n, h => by
    have ih := under_half (s :: l) (t.2 - 1) h.2.1
    have h1 := h.1
    have h2 := h.2.2 (by simp)
    rw [List.length_cons]
    omega

/-- a number of low exponents -/
theorem part_low {x : Int} {M : Nat} (h : ∀ e ∈ exps x, e ≤ M) {e : Nat} (he : Part e x) : e ≤ M := by
  rcases part_iff.1 he with ⟨f, hf, rfl | hp⟩
  · exact h _ hf
  · have h1 := h _ hf
    have h2 := hp.lt
    simp at h2
    omega

theorem height_1023 {e : Nat} (he : e ≤ 1023) : height (e : Int) ≤ 11 := by
  have h1 : ∀ f ∈ exps (e : Int), f ≤ 10 := fun f hf => by
    have h1 := exps_pow hf
    apply Classical.byContradiction
    intro hge
    have h2 := pow_mono (show 12 ≤ f + 1 by omega)
    have h3 : (2 : Int) ^ 12 = 4096 := by decide
    simp at h1
    omega
  have h2 := height_plist _ (Nat.lt_succ_self (e : Int).natAbs)
  have h3 := nodup_sub_nat (a := plist (e : Int)) (b := List.range 11) (plist_nodup _) fun f hf => by
    have := part_low h1 (mem_plist.1 hf)
    rw [List.mem_range]; omega
  simp at h3
  omega

theorem foldr_max_le (f : Nat → Nat) (n : Nat) : ∀ l : List Nat, (∀ e ∈ l, f e ≤ n) → l.foldr (fun e m => max (f e) m) 0 ≤ n
  | [], _ => by simp
  | a :: l, h => by
    have h1 := foldr_max_le f n l fun e he => h e (by simp [he])
    have h2 := h a (by simp)
    simp only [List.foldr_cons]
    omega

theorem low_allowed {x : Int} {M : Nat} (hM : M ≤ 1023) (h : ∀ e ∈ exps x, e ≤ M) (hw : wl x ≤ 300) : Allowed x ∧ weight x ≤ 1025 ∧ height x ≤ 12 := by
  have hwt : weight x ≤ 1025 := by
    have := weight_sub (x := x) (L := List.range 1024) fun e he => by
      have := part_low h he
      rw [List.mem_range]; omega
    simpa using this
  have hht : height x ≤ 12 := by
    rw [height_eq]
    refine foldr_max_le (fun e : Nat => height (e : Int) + 1) 12 _ fun e he => ?_
    have := height_1023 (e := e) (by have := h e he; omega)
    show height (e : Int) + 1 ≤ 12
    omega
  refine ⟨⟨hw, fun e he => ?_, by omega, by omega⟩, hwt, hht⟩
  have h1 := part_low h he
  have h2 := form_length_le (x := (e : Int)) (n := 300) fun f hf => by
    have h1 := exps_pow hf
    apply Classical.byContradiction
    intro hge
    have h2 := pow_mono (show 12 ≤ f + 1 by omega)
    have h3 : (2 : Int) ^ 12 = 4096 := by decide
    simp at h1
    omega
  exact h2

/-- the terms of NumFull, and their list as a form -/
def fullT (n : Nat) (i : Nat) : Bool × Int := (i % 3 == 1, ((2 * i + n : Nat) : Int))
def fullL (n k : Nat) : List (Bool × Int) := (List.range k).map (fullT n)
def fullS (n : Nat) : Nat → List T
  | 0 => []
  | k + 1 => (k % 3 == 1, 2 * k + n) :: fullS n k
def fullV (n k : Nat) : Int := val (fullS n k)

theorem fullL_length (n k : Nat) : (fullL n k).length = k := by simp [fullL]
theorem fullS_length (n : Nat) : ∀ k, (fullS n k).length = k
  | 0 => rfl
  | k + 1 => by simp [fullS, fullS_length n k]
theorem fullL_succ (n k : Nat) : fullL n (k + 1) = fullL n k ++ [fullT n k] := by simp [fullL, List.range_succ]
theorem fullL_take (n : Nat) {j k : Nat} (h : j ≤ k) : (fullL n k).take j = fullL n j := by
  unfold fullL
  rw [← List.map_take, List.take_range, Nat.min_eq_left h]

theorem termsV_full (n : Nat) : ∀ k, termsV (fullL n k) = fullV n k
  | 0 => rfl
  | k + 1 => by
    have ih := termsV_full n k
    have h1 : termsV (fullL n (k + 1)) = termsV (fullL n k) + tv (k % 3 == 1, 2 * k + n) := by
      rw [fullL_succ]
      unfold termsV termsT
      rw [List.map_append, val_append]
      congr 1
      simp only [List.map_cons, List.map_nil, val, fullT, Int.toNat_natCast, Int.add_zero]
    rw [h1, ih]
    unfold fullV
    simp only [fullS, val]
    omega

theorem fullS_under (n : Nat) : ∀ k, Under (2 * k + n - 1) (fullS n k)
  | 0 => trivial
  | k + 1 => ⟨by simp only; omega, fullS_under n k, fun h => by
    simp only
    cases k with
    | zero => simp [fullS] at h
    | succ k => omega⟩

theorem form_full (n k : Nat) : form (fullV n k) = fullS n k := form_of ⟨_, fullS_under n k⟩ rfl
theorem wl_full (n k : Nat) : wl (fullV n k) = k := by unfold wl; rw [form_full, fullS_length]
theorem exps_full {n k : Nat} {e : Nat} (h : e ∈ exps (fullV n k)) : e + 2 ≤ 2 * k + n := by
  obtain ⟨t, ht, rfl⟩ := mem_exps.1 h
  rw [form_full] at ht
  have := under_mem _ _ (fullS_under n k) t ht
  omega
theorem full_allowed {n k : Nat} (hn : n ≤ 255) (hk : k ≤ 300) : Allowed (fullV n k) ∧ weight (fullV n k) ≤ 1025 ∧ height (fullV n k) ≤ 12 :=
  low_allowed (M := 853) (by decide) (fun e he => by have := exps_full he; omega) (by rw [wl_full]; exact hk)

theorem full_nonneg (n k : Nat) : ¬ ∃ t ∈ fullL n k, t.2 < 0 := by
  rintro ⟨t, ht, h⟩
  unfold fullL at ht
  obtain ⟨i, _, rfl⟩ := List.mem_map.1 ht
  unfold fullT at h
  simp only at h
  omega
theorem sumR_full {n k : Nat} (hn : n ≤ 255) (hk : k ≤ 300) : sumR (fullL n k) = (fullV n k, 0) := by
  unfold sumR
  rw [if_neg (full_nonneg n k), if_neg (by rw [fullL_length]; omega), termsV_full, gv_ok (full_allowed hn hk).1]
theorem sumR_full_no (n : Nat) : sumR (fullL n 301) = (0, 5) := by
  unfold sumR
  rw [if_neg (full_nonneg n _), if_neg (by rw [fullL_length]; omega), termsV_full, gv_no fun h => ?_]
  have := h.1
  rw [form_full, fullS_length] at this
  omega

theorem fullV_pos (n k : Nat) (h : (k % 3 == 1) = false) : 0 < fullV n (k + 1) := by
  have h1 : (2 : Int) ^ (2 * k + n + 1) + 1 ≤ 3 * val ((k % 3 == 1, 2 * k + n) :: fullS n k) := (val_pos (fullS_under n (k + 1))).1 h
  have h2 := two_pow_pos (2 * k + n + 1)
  have h3 : fullV n (k + 1) = val ((k % 3 == 1, 2 * k + n) :: fullS n k) := rfl
  rw [h3]
  omega

theorem full_more (n : Nat) : gv (fullV n 300 + 2 ^ (600 + n)) = (0, 5) := by
  refine gv_no fun h => ?_
  have hf : form (fullV n 300 + 2 ^ (600 + n)) = (false, 600 + n) :: fullS n 300 :=
    form_of ⟨601 + n, by show 600 + n < 601 + n; omega, (fullS_under n 300).mono (by simp only; omega), fun _ => by simp only; omega⟩ (by simp [val, tv, fullV]; omega)
  have := h.1
  rw [hf, List.length_cons, fullS_length] at this
  omega

theorem pow_small {m : Nat} (h : m ≤ 1000) : shiftR 1 (m : Int) = (2 ^ m, 0) := by
  rw [shiftR_nat, Int.mul_one]
  refine gv_ok (low_allowed (M := 1000) (by decide) (fun e he => ?_) (by unfold wl; rw [form_pow2]; simp)).1
  have : exps (2 ^ m) = [m] := by simp [exps, form_pow2]
  rw [this] at he
  simp at he
  omega

/-- two to the power of the full number -/
theorem full_pow {n : Nat} (hn : n ≤ 255) : ∃ m : Nat, (m : Int) = fullV n 300 ∧ shiftR 1 (fullV n 300) = (2 ^ m, 0) ∧ height (2 ^ m) = height (fullV n 300) + 1 ∧ wl (2 ^ m) = 1 ∧ sg (fullV n 300) = 1 := by
  have hp : 0 < fullV n 300 := fullV_pos n 299 (by decide)
  obtain ⟨h1, h2, h3⟩ := full_allowed hn (Nat.le_refl 300)
  obtain ⟨m, hm⟩ : ∃ m : Nat, (m : Int) = fullV n 300 := ⟨(fullV n 300).toNat, Int.toNat_of_nonneg (by omega)⟩
  rw [← hm] at h1 h2 h3 hp
  obtain ⟨a1, a2, a3⟩ := allowed_pow2 h1 (by omega) (by omega)
  refine ⟨m, hm, ?_, by rw [← hm]; exact a3, by unfold wl; rw [form_pow2]; rfl, ?_⟩
  · rw [← hm, shiftR_nat, Int.mul_one, gv_ok a1]
  · rw [← hm]; unfold sg; rw [if_neg (by omega), if_neg (by omega)]

/-- the tower of NumFull -/
theorem full_tower : ∃ t : Nat → Nat, t 0 = 1 ∧ (∀ k, k < 99 → shiftR 1 (t k : Int) = ((t (k + 1) : Int), (0 : Int))) ∧ (∀ k, k ≤ 99 → Allowed (t k : Int) ∧ height (t k : Int) = k + 1) ∧
    shiftR 1 (t 99 : Int) = (0, 5) ∧ gv ((t 99 : Int) - 1) = ((t 99 : Int) - 1, 0) := by
  obtain ⟨t, h0, hs⟩ : ∃ t : Nat → Nat, t 0 = 1 ∧ ∀ k, t (k + 1) = 2 ^ t k := ⟨fun k => Nat.rec 1 (fun _ r => 2 ^ r) k, rfl, fun _ => rfl⟩
  have hsi : ∀ k, ((t (k + 1) : Nat) : Int) = 2 ^ t k := fun k => by rw [hs]; simp
  have hall : ∀ k, k ≤ 99 → Allowed (t k : Int) ∧ weight (t k : Int) ≤ 66 + k ∧ height (t k : Int) = k + 1 := by
    intro k
    induction k with
    | zero =>
      intro _
      rw [h0]
      refine ⟨allowed_small (by decide), ?_, height_1⟩
      have := plist_small (x := ((1 : Nat) : Int)) (by decide)
      unfold weight
      omega
    | succ k ih =>
      intro hk
      obtain ⟨i1, i2, i3⟩ := ih (by omega)
      obtain ⟨a1, a2, a3⟩ := allowed_pow2 i1 (by omega) (by omega)
      rw [hsi]
      exact ⟨a1, by omega, by omega⟩
  have hge : ∀ k, 1 ≤ k → 2 ≤ t k := fun k hk => by
    cases k with
    | zero => omega
    | succ k =>
      rw [hs]
      have : 1 ≤ t k := by
        cases k with
        | zero => rw [h0]; exact Nat.le_refl _
        | succ k => rw [hs]; exact Nat.one_le_two_pow
      exact Nat.pow_le_pow_right (n := 2) (by decide) this
  refine ⟨t, h0, fun k hk => ?_, fun k hk => ⟨(hall k hk).1, (hall k hk).2.2⟩, ?_, ?_⟩
  · rw [shiftR_nat, Int.mul_one, ← hsi]
    exact gv_ok (hall (k + 1) (by omega)).1
  · rw [shiftR_nat, Int.mul_one]
    refine gv_no fun h => ?_
    have he : exps (2 ^ t 99) = [t 99] := by simp [exps, form_pow2]
    have h1 : height (2 ^ t 99) = height (t 99 : Int) + 1 := by rw [height_eq, he]; simp
    have h2 := (hall 99 (by omega)).2.2
    have h3 := h.2.2.2
    omega
  · obtain ⟨i1, i2, i3⟩ := hall 98 (by omega)
    rw [hsi 98]
    have h2 := hge 98 (by omega)
    have hf : form (2 ^ t 98 - 1) = [(false, t 98), (true, 0)] := form_of ⟨t 98 + 1, by simp only; omega, ⟨by simp only; omega, trivial, by simp⟩, fun _ => by simp only; omega⟩ (by simp [val, tv]; omega)
    have he : exps (2 ^ t 98 - 1) = [t 98, 0] := by simp [exps, hf]
    have hp : ∀ e, Part e (2 ^ t 98 - 1) → e = t 98 ∨ Part e (t 98 : Int) ∨ e = 0 := fun e h => by
      rw [part_iff, he] at h
      simp [not_part_zero] at h
      rcases h with (h | h) | h
      · exact .inl h
      · exact .inr (.inl h)
      · exact .inr (.inr h)
    have hwt : weight (2 ^ t 98 - 1) ≤ weight (t 98 : Int) + 2 := by
      have := weight_sub (x := 2 ^ t 98 - 1) (L := t 98 :: 0 :: plist (t 98 : Int)) fun e h => by
        rcases hp e h with rfl | h | rfl
        · simp
        · simp [mem_plist.2 h]
        · simp
      simp only [List.length_cons] at this
      unfold weight at this ⊢
      omega
    have hht : height (2 ^ t 98 - 1) = height (t 98 : Int) + 1 := by rw [height_eq, he]; simp [height_0]
    refine gv_ok ⟨by rw [hf]; simp, fun e h' => ?_, by omega, by omega⟩
    rcases hp e h' with rfl | h' | rfl
    · exact i1.1
    · exact i1.2.1 e h'
    · simp [form_zero]

theorem val_full_up (n : Nat) : ∀ k, fullV n k = 2 ^ n * fullV 0 k := fun k => by
  unfold fullV
  rw [← val_up]
  congr 1
  induction k with
  | zero => rfl
  | succ k ih => simp only [fullS, up, List.map_cons] at ih ⊢; rw [ih]; simp

/-- the product of the full number of 100 terms with itself -/
theorem full_square {n : Nat} (hn : n ≤ 255) : mulR (fullV n 100) (fullV n 100) = (fullV n 100 * fullV n 100, 0) ∧ sg (fullV n 100 * fullV n 100) = 1 := by
  have hp0 : 0 < fullV n 100 := fullV_pos n 99 (by decide)
  have hpp : 0 < fullV n 100 * fullV n 100 := Int.mul_pos hp0 hp0
  refine ⟨?_, by unfold sg; rw [if_neg (by omega), if_neg (by omega)]⟩
  unfold mulR
  rw [if_pos (by rw [wl_full]; decide)]
  refine gv_ok ?_
  obtain ⟨y, hy⟩ : ∃ y, y = fullV 0 100 := ⟨_, rfl⟩
  have hx : fullV n 100 * fullV n 100 = 2 ^ (2 * n) * (y * y) := by
    rw [val_full_up n 100, ← hy, Nat.two_mul, Int.pow_add]
    simp only [Int.mul_assoc, Int.mul_left_comm, Int.mul_comm]
  have hyb : 0 < y ∧ y < 2 ^ 200 := by
    rw [hy]
    refine ⟨fullV_pos 0 99 (by decide), ?_⟩
    have h1 := under_bound _ _ (fullS_under 0 100)
    have h2 : (2 : Int) ^ (2 * 100 + 0 - 1 + 1) = 2 ^ 200 := rfl
    rw [h2] at h1
    have h3 : val (fullS 0 100) = fullV 0 100 := rfl
    rw [h3] at h1
    have h4 := two_pow_pos 200
    generalize (2 : Int) ^ 200 = z at h1 h4 ⊢
    omega
  have hyy : 0 < y * y ∧ y * y < 2 ^ 400 := by
    refine ⟨Int.mul_pos hyb.1 hyb.1, ?_⟩
    have h1 : y * y < 2 ^ 200 * 2 ^ 200 :=
      Int.lt_of_le_of_lt (Int.mul_le_mul_of_nonneg_left (Int.le_of_lt hyb.2) (Int.le_of_lt hyb.1)) (Int.mul_lt_mul_of_pos_right hyb.2 (two_pow_pos 200))
    rw [← Int.pow_add] at h1
    exact h1
  have he : ∀ e ∈ exps (y * y), e < 401 := fun e he => by
    have h1 := exps_pow he
    apply Classical.byContradiction
    intro hge
    have h2 := pow_mono (show 402 ≤ e + 1 by omega)
    have h3 : (2 : Int) ^ 402 = 4 * 2 ^ 400 := by rw [show (402 : Nat) = 400 + 1 + 1 by rfl, pow_succ', pow_succ']; omega
    have h4 : ((y * y).natAbs : Int) = y * y := Int.natAbs_of_nonneg (Int.le_of_lt hyy.1)
    rw [h4] at h1
    have h5 := hyy.2
    generalize y * y = q at h1 h5
    generalize (2 : Int) ^ 400 = z at h3 h5
    omega
  have hw : wl (y * y) ≤ 201 := by
    obtain ⟨k, hk⟩ := form_form (y * y)
    have := under_half _ 401 (hk.cut fun t ht => he t.2 (mem_exps.2 ⟨t, ht, rfl⟩))
    unfold wl
    omega
  rw [hx]
  refine (low_allowed (M := 911) (by decide) (fun e h => ?_) ?_).1
  · rw [exps_up] at h
    obtain ⟨f, hf, rfl⟩ := List.mem_map.1 h
    have := he f hf
    omega
  · have : wl (2 ^ (2 * n) * (y * y)) = wl (y * y) := by unfold wl; rw [form_up]; simp [up]
    omega

theorem full_refused (n : Nat) : mulR (fullV n 101) (fullV n 100) = (0, 5) := by
  unfold mulR
  rw [if_neg (by rw [wl_full, wl_full]; decide)]
theorem full_kept {n : Nat} (hn : n ≤ 255) : mulR (fullV n 100) 1 = (fullV n 100, 0) := by
  unfold mulR
  rw [if_pos (by rw [wl_full]; unfold wl; rw [form_1]; decide), Int.mul_one, gv_ok (full_allowed hn (by omega)).1]

end Go.Proofs.Ytgchfbfgjanaiaa

namespace Go.Proofs.Ytgchfbfgjanaiaa
open Go.RowKit Sr

/-- how often a power may be in a pack, and one more -/
def mostC (n : Nat) : Int := if 160 < n then 2 else 5
/-- how often each power is in a pack -/
def cntF (A : List Int) : List Int := A.map fun z => z.tmod (mostC A.length)
theorem cntF_length (A : List Int) : (cntF A).length = A.length := by simp [cntF]
theorem mostC_cases (n : Nat) : (160 < n ∧ mostC n = 2) ∨ (n ≤ 160 ∧ mostC n = 5) := by
  unfold mostC
  by_cases h : 160 < n
  · exact .inl ⟨h, if_pos h⟩
  · exact .inr ⟨by omega, if_neg h⟩
theorem cntF_at {A : List Int} {k : Nat} {z : Int} (h : A[k]? = some z) : (cntF A)[k]? = some (z.tmod (mostC A.length)) := by unfold cntF; rw [List.getElem?_map, h]; rfl
theorem tmod_in {z m : Int} (hm : 0 < m) : -m < z.tmod m ∧ z.tmod m < m := by
  have h1 := Int.tmod_lt_of_pos z hm
  have h2 := Int.tmod_lt_of_pos (-z) hm
  rw [Int.neg_tmod] at h2
  omega
theorem cntF_in {A : List Int} : ∀ z ∈ cntF A, -(mostC A.length - 1) ≤ z ∧ z ≤ mostC A.length - 1 := fun z hz => by
  unfold cntF at hz
  obtain ⟨y, _, rfl⟩ := List.mem_map.1 hz
  have := tmod_in (z := y) (m := mostC A.length) (by rcases mostC_cases A.length with h | h <;> omega)
  omega

theorem vl_abs {B : Int} (l : List Int) (h : ∀ z ∈ l, -B ≤ z ∧ z ≤ B) : -(B * (2 ^ l.length - 1)) ≤ vl l ∧ vl l ≤ B * (2 ^ l.length - 1) := by
  induction l with
  | nil => simp [vl]
  | cons z l ih =>
    have h1 := ih fun y hy => h y (by simp [hy])
    have h2 := h z (by simp)
    simp only [vl, List.length_cons]
    rw [show ((2 : Int) ^ (l.length + 1)) = 2 * 2 ^ l.length by rw [Int.pow_succ, Int.mul_comm]]
    have e : B * (2 * 2 ^ l.length - 1) = 2 * (B * (2 ^ l.length - 1)) + B := by
      rw [Int.mul_sub, Int.mul_sub, Int.mul_left_comm]; omega
    rw [e]
    generalize B * (2 ^ l.length - 1) = q at h1 ⊢
    omega

theorem pow_cast (m : Nat) : ((2 ^ m : Nat) : Int) = 2 ^ m := by simp
theorem cnt_any {A : List Int} {m : Nat} (h : (160 < A.length ∧ A.length ≤ m) ∨ (A.length ≤ 160 ∧ A.length + 2 ≤ m)) : (vl (cntF A)).natAbs ≤ 2 ^ m := by
  have h1 := vl_abs (cntF A) cntF_in
  rw [cntF_length] at h1
  have h3 := pow_cast m
  rcases mostC_cases A.length with ⟨h2, e⟩ | ⟨h2, e⟩
  · rw [e] at h1
    have h4 := pow_mono (show A.length ≤ m by omega)
    simp only [show (2 : Int) - 1 = 1 by rfl, Int.one_mul] at h1
    generalize vl (cntF A) = x at h1 ⊢
    generalize (2 : Int) ^ A.length = q at h1 h4
    generalize (2 : Int) ^ m = r at h3 h4
    generalize (2 : Nat) ^ m = t at h3 ⊢
    omega
  · rw [e] at h1
    have h4 := pow_mono (show A.length + 2 ≤ m by omega)
    have h5 : (2 : Int) ^ (A.length + 2) = 4 * 2 ^ A.length := by rw [Int.pow_add, Int.mul_comm]; rfl
    rw [h5] at h4
    simp only [show (5 : Int) - 1 = 4 by rfl] at h1
    generalize vl (cntF A) = x at h1 ⊢
    generalize (2 : Int) ^ A.length = q at h1 h4
    generalize (2 : Int) ^ m = r at h3 h4
    generalize (2 : Nat) ^ m = t at h3 ⊢
    omega
theorem cnt_abs {A : List Int} {m : Nat} (hm : m = 590) (h : A.length ≤ 590) : (vl (cntF A)).natAbs ≤ 2 ^ m := cnt_any (by omega)
theorem cnt_small {A : List Int} {m : Nat} (hm : m = 162) (h : A.length ≤ 160) : (vl (cntF A)).natAbs ≤ 2 ^ m := cnt_any (by omega)

/-- numbers of few digits -/
theorem bin_exps {x : Int} {m : Nat} (h : x.natAbs ≤ 2 ^ m) : ∀ e ∈ exps x, e ≤ m := fun e he => by
  have h1 := exps_pow he
  apply Classical.byContradiction
  intro hge
  have h2 := pow_mono (show m + 2 ≤ e + 1 by omega)
  have h3 : (2 : Int) ^ (m + 2) = 4 * 2 ^ m := by rw [Int.pow_add, Int.mul_comm]; rfl
  have h4 := pow_cast m
  have h5 := two_pow_pos m
  omega
theorem bin_wl {x : Int} {m : Nat} (h : x.natAbs ≤ 2 ^ m) : 2 * wl x ≤ m + 2 := by
  obtain ⟨k, hk⟩ := form_form x
  have := under_half _ (m + 1) (hk.cut fun t ht => by have := bin_exps h t.2 (mem_exps.2 ⟨t, ht, rfl⟩); omega)
  unfold wl
  omega
theorem bin_allowed {x : Int} {m : Nat} (h : x.natAbs ≤ 2 ^ m) (hm : m ≤ 598) : Allowed x :=
  (low_allowed (M := m) (by omega) (bin_exps h) (by have := bin_wl h; omega)).1

theorem cnt_allowed {A : List Int} (h : A.length ≤ 590) : Allowed (vl (cntF A)) := by
  obtain ⟨m, hm⟩ : ∃ m : Nat, m = 590 := ⟨_, rfl⟩
  exact bin_allowed (cnt_abs hm h) (by omega)

/-- shifted numbers of few digits -/
theorem bin_up {x : Int} {m n : Nat} (h : x.natAbs ≤ 2 ^ m) : (∀ e ∈ exps (2 ^ n * x), e ≤ m + n) ∧ wl (2 ^ n * x) = wl x := by
  refine ⟨fun e he => ?_, by unfold wl; rw [form_up]; simp [up]⟩
  rw [exps_up] at he
  obtain ⟨f, hf, rfl⟩ := List.mem_map.1 he
  have := bin_exps h f hf
  omega
theorem bin_up_allowed {x : Int} {m n : Nat} (h : x.natAbs ≤ 2 ^ m) (hm : m ≤ 598) (hn : n ≤ 300) : Allowed (2 ^ n * x) :=
  (low_allowed (M := m + n) (by omega) (bin_up h).1 (by rw [(bin_up (n := n) h).2]; have := bin_wl h; omega)).1

/-- the sum of what has been counted -/
def cntV (A : List Int) (back : Bool) (i : Nat) : Int := if back = true then vl (cntF A) - vl ((cntF A).take (A.length - i)) else vl ((cntF A).take i)
theorem cntV_zero (A : List Int) (back : Bool) : cntV A back 0 = 0 := by
  unfold cntV
  split
  · rw [Nat.sub_zero, ← cntF_length, List.take_length]; omega
  · rfl
theorem cntV_all (A : List Int) (back : Bool) : cntV A back A.length = vl (cntF A) := by
  unfold cntV
  split
  · rw [Nat.sub_self]; show _ - 0 = _; omega
  · rw [← cntF_length, List.take_length]
/-- the power that is counted in the i-th round -/
def cntK (n : Nat) (back : Bool) (i : Nat) : Nat := if back = true then n - 1 - i else i
theorem cntK_lt {n i : Nat} (back : Bool) (h : i < n) : cntK n back i < n := by unfold cntK; split <;> omega
theorem cntV_succ {A : List Int} {back : Bool} {i : Nat} (hi : i < A.length) {z : Int} (hz : A[cntK A.length back i]? = some z) : cntV A back (i + 1) = cntV A back i + 2 ^ cntK A.length back i * z.tmod (mostC A.length) := by
  have h1 := vl_take (cntF_at hz)
  unfold cntV
  cases back
  · simp only [Bool.false_eq_true, if_false] at *
    simp only [cntK, Bool.false_eq_true, if_false] at h1 ⊢
    exact h1
  · simp only [if_true] at *
    simp only [cntK, if_true] at h1 ⊢
    rw [show A.length - 1 - i + 1 = A.length - i by omega] at h1
    rw [show A.length - (i + 1) = A.length - 1 - i by omega, h1]
    omega

end Go.Proofs.Ytgchfbfgjanaiaa

namespace Go.Proofs.Ytgchfbfgjanaiaa
open Go.RowKit Sr

theorem abs_up {x y : Int} {m : Nat} (hx : x.natAbs ≤ 2 ^ m) (hy : y.natAbs ≤ 2 ^ m) : (x + y).natAbs ≤ 2 ^ (m + 1) ∧ (x - y).natAbs ≤ 2 ^ (m + 1) := by
  have h1 : 2 ^ (m + 1) = 2 * 2 ^ m := by rw [Nat.pow_succ, Nat.mul_comm]
  rw [h1]
  generalize 2 ^ m = q at hx hy ⊢
  omega
theorem abs_mul {x y : Int} {m : Nat} (hx : x.natAbs ≤ 2 ^ m) (hy : y.natAbs ≤ 2 ^ m) : (x * y).natAbs ≤ 2 ^ (m + m) := by
  rw [Int.natAbs_mul, Nat.pow_add]
  exact Nat.mul_le_mul hx hy
theorem exps_minus (x : Int) : exps (-x) = exps x := by
  unfold exps
  rw [form_neg]
  simp [neg]

/-- all that NumBinary asks of its numbers -/
structure BinF (A B : List Int) (n : Nat) (x y : Int) : Prop where
  sum : gv (x + y) = (x + y, 0)
  less : gv (x - y) = (x - y, 0)
  up : shiftR x (n : Int) = (2 ^ n * x, 0)
  down : shiftR (2 ^ n * x) (-(n : Int)) = (x, 0)
  mul : A.length ≤ 160 ∧ B.length ≤ 160 → mulR x y = (x * y, 0)
  ex : ∀ e ∈ exps x, e ≤ 1000
  ey : ∀ e ∈ exps y, e ≤ 1000
  esum : ∀ e ∈ exps (x + y), e ≤ 1000
  eless : ∀ e ∈ exps (x - y), e ≤ 1000
  eup : ∀ e ∈ exps (2 ^ n * x), e ≤ 1000
  eneg : ∀ e ∈ exps (-x), e ≤ 1000
  emul : A.length ≤ 160 ∧ B.length ≤ 160 → ∀ e ∈ exps (x * y), e ≤ 1000

theorem bin_facts {A B : List Int} (hA : A.length ≤ 590) (hB : B.length ≤ 590) {n : Nat} (hn : n ≤ 200) : BinF A B n (vl (cntF A)) (vl (cntF B)) := by
  obtain ⟨m, hm⟩ : ∃ m : Nat, m = 590 := ⟨_, rfl⟩
  obtain ⟨q, hq⟩ : ∃ q : Nat, q = 162 := ⟨_, rfl⟩
  have hx := cnt_abs hm hA
  have hy := cnt_abs hm hB
  have hx2 : A.length ≤ 160 ∧ B.length ≤ 160 → (vl (cntF A)).natAbs ≤ 2 ^ q ∧ (vl (cntF B)).natAbs ≤ 2 ^ q := fun h => ⟨cnt_small hq h.1, cnt_small hq h.2⟩
  generalize vl (cntF A) = x at hx hx2 ⊢
  generalize vl (cntF B) = y at hy hx2 ⊢
  obtain ⟨h1, h2⟩ := abs_up hx hy
  have hax := bin_allowed hx (by omega)
  have h3 : A.length ≤ 160 ∧ B.length ≤ 160 → (x * y).natAbs ≤ 2 ^ (q + q) := fun h => abs_mul (hx2 h).1 (hx2 h).2
  refine ⟨gv_ok (bin_allowed h1 (by omega)), gv_ok (bin_allowed h2 (by omega)), ?_, ?_, fun h => ?_, fun e he => ?_, fun e he => ?_, fun e he => ?_, fun e he => ?_, fun e he => ?_, fun e he => ?_, fun h e he => ?_⟩
  · rw [shiftR_nat]
    exact gv_ok (bin_up_allowed hx (by omega) (by omega))
  · unfold shiftR
    rw [if_pos (whole_iff.2 ⟨x, rfl⟩), shl_div]
    exact gv_ok hax
  · unfold mulR
    have h4 := bin_wl (hx2 h).1
    have h5 := bin_wl (hx2 h).2
    rw [if_pos (Nat.le_trans (Nat.mul_le_mul (show wl x ≤ 82 by omega) (show wl y ≤ 82 by omega)) (by decide))]
    exact gv_ok (bin_allowed (h3 h) (by omega))
  · have := bin_exps hx e he; omega
  · have := bin_exps hy e he; omega
  · have := bin_exps h1 e he; omega
  · have := bin_exps h2 e he; omega
  · have := (bin_up (n := n) hx).1 e he; omega
  · rw [exps_minus] at he
    have := bin_exps hx e he; omega
  · have := bin_exps (h3 h) e he; omega

theorem cntF_small {A : List Int} : ∀ z ∈ cntF A, -4 ≤ z ∧ z ≤ 4 := fun z hz => by
  have h1 := cntF_in z hz
  rcases mostC_cases A.length with ⟨_, e⟩ | ⟨_, e⟩ <;> rw [e] at h1 <;> omega

/-- one power of two, as a list of factors -/
theorem vl_power (n : Nat) : vl (List.replicate n 0 ++ [1]) = 2 ^ n := by
  rw [vl_append, vl_zeros, List.length_replicate]
  simp [vl]
theorem set_power (n : Nat) : (List.replicate (n + 1) (0 : Int)).set n 1 = List.replicate n 0 ++ [1] := by
  rw [List.replicate_succ', List.set_append_right _ _ (by simp)]
  simp

end Go.Proofs.Ytgchfbfgjanaiaa

namespace Go.Proofs.Ytgchfbfgjanaiaa
open Go.RowKit Sr

set_option maxRecDepth 100000 in
set_option maxHeartbeats 4000000 in
theorem rCarry_any {w : World} {v : Value} {l : List Int} (h : IntsAt w v l) (hB : ∀ z ∈ l, -1000000000 ≤ z ∧ z ≤ 1000000000) :
    Calls Try.prog 79 #[v] w fun e w' => ∃ a c, e = .returned (.tuple #[.slice a l.length c, .int .i64 (car 0 l).2]) ∧
      w'.ownsRow w.heap.size 3 1 (.slice a l.length c) l.length (zrow (car 0 l).1) ∧ Below w.heap.size w w' := by
  obtain ⟨a, c, rfl, hc⟩ := h.len'
  obtain ⟨n, hn⟩ : ∃ n, n = l.length := ⟨_, rfl⟩
  have hn1 : n ≤ 1000000 := by rw [hn]; exact h.len
  rw [← hn] at h hc ⊢
  have H := Sealed.mk (And.intro h (And.intro hB hn))
  clear h hB hn
  have hlit : (w.alloc (.cells #[] 3)).ownsRow w.heap.size 3 1 (.slice (some ⟨w.heap.size, 0, none⟩) 0 0) 0 (zrow (car 0 (l.take 0)).1) := by
    have := World.ownsRow_lit (base := w.heap.size) (e := 3) (size := 1) w #[] 0 (Nat.le_refl _) (by decide) rfl
    simpa [zrow, car] using this
  have H0 := Sealed.mk (And.intro hlit ((Below.refl w.heap.size w).alloc (Nat.le_refl _) (.cells #[] 3))); clear hlit
  go_enter Try.func79, Try.ntmps79
  go_wp2_with fail
  obtain ⟨W0, hW0⟩ : ∃ W0, W0 = w.alloc (.cells #[] 3) := ⟨_, rfl⟩
  rw [← hW0] at H0 ⊢
  clear hW0
  go_loopg [4, 5, 6] n (fun jj ov cv iv W => ∃ (k : Nat) (oa : Option Addr) (oc : Nat), jj = n - k ∧ k ≤ n ∧ iv = .int .i64 (k : Int) ∧ ov = .slice oa k oc ∧ cv = .int .i64 (car 0 (l.take k)).2 ∧ Sealed (W.ownsRow w.heap.size 3 1 (.slice oa k oc) k (zrow (car 0 (l.take k)).1) ∧ Below w.heap.size w W))
  case atStart => exact ⟨0, _, 0, rfl, Nat.zero_le _, rfl, rfl, rfl, H0⟩
  case round =>
    obtain ⟨k, oa, oc, rfl, hk, rfl, rfl, rfl, HK⟩ := hrel
    by_cases hkn : k < n
    · obtain ⟨z, hz⟩ : ∃ z, l[k]? = some z := ⟨_, List.getElem?_eq_getElem (by have := H.out.2.2; omega)⟩
      obtain ⟨b, o, rfl, c1⟩ := (H.out.1.below HK.out.2).cell hz
      have hzB := H.out.2.1 z (List.mem_of_getElem? hz)
      have hcB := car_bound (B := 1000000000) (l.take k) 0 (fun y hy => H.out.2.1 y (List.mem_of_mem_take hy)) (by decide)
      have hsn := car_snoc (l.take k) z 0
      rw [← take_snoc hz] at hsn
      obtain ⟨cc, hcc⟩ : ∃ cc, cc = (car 0 (l.take k)).2 := ⟨_, rfl⟩
      rw [← hcc] at hcB hsn ⊢
      obtain ⟨v, fv⟩ : ∃ v, z + cc = v := ⟨_, rfl⟩
      rw [fv] at hsn
      have hvB : -2000000000 ≤ v ∧ v ≤ 2000000000 := by omega
      have f3 : (wrap64 (v.tmod 2 + 2)).tmod 2 = v % 2 := by
        have ft := Int.tmod_lt_of_pos v (b := 2) (by decide)
        have ft2 := Int.tmod_lt_of_pos (-v) (b := 2) (by decide)
        rw [Int.neg_tmod] at ft2
        rw [show wrap64 (v.tmod 2 + 2) = v.tmod 2 + 2 by unfold wrap64; omega, mod_two]
      have f6 : (v - v % 2).tdiv 2 = v / 2 := div_two v
      obtain ⟨d, hd⟩ : ∃ d, d = v % 2 := ⟨_, rfl⟩
      obtain ⟨c2, hc2⟩ : ∃ c2, c2 = v / 2 := ⟨_, rfl⟩
      have hdB : 0 ≤ d ∧ d ≤ 1 := by omega
      have hc2B : -1000000000 ≤ c2 ∧ c2 ≤ 1000000000 := by omega
      rw [← hd] at f3 f6 hsn
      rw [← hc2] at f6 hsn
      clear hd hc2
      obtain ⟨u, fu⟩ : ∃ u, v - d = u := ⟨_, rfl⟩
      rw [fu] at f6
      have huB : -2000000001 ≤ u ∧ u ≤ 2000000000 := by omega
      have hkn' : (k : Int) < (n : Int) := by omega
      have hkw : wrap64 ((k : Int) + 1) = (k : Int) + 1 := by unfold wrap64; omega
      have HS := Sealed.mk hsn; clear hsn hcc hz
      go_upto_region 8 with fail
      have HF := Sealed.mk (And.intro fu (And.intro f6 (And.intro hdB (And.intro hc2B (And.intro huB hvB)))))
      clear fv hvB f3 f6 hdB hc2B fu huB hcB hzB
      go_wp2_with (at_builtin; go_must (refine ap_litp (m := 1) el_int (.tmp 26) (.tmp 28) rfl rfl rfl HK.out.1 rfl rfl rfl (by decide) ?h1 ?h2 ?h3 ?h4))
      case h1 => simp [Value.oneCell']
      case h2 => omega
      case h3 => exact HK.out.2.size
      case h4 =>
        intro g4 c4 w4 ho4 hg4 _
        have HO := Sealed.mk (And.intro ho4 hg4); clear ho4 hg4
        obtain ⟨fu, f6, hdB, hc2B, huB, hvB⟩ := HF.out
        go_wp2_with fail
        go_roundg (n - (k + 1))
        case measure => omega
        case rel =>
          refine ⟨k + 1, _, c4, rfl, by omega, by push_cast; rfl, rfl, by rw [HS.out], ⟨?_, HK.out.2.grown HO.out.2 HK.out.2.size (fun q hq => own_ge HK.out.1 q hq)⟩⟩
          rw [HS.out]
          simp only [zrow_append]
          exact HO.out.1
    · obtain rfl : k = n := by omega
      have e1 : l.take k = l := by rw [H.out.2.2, List.take_length]
      rw [e1] at HK ⊢
      go_wp2_with fail
      refine bodyPost_ret (v := .tuple #[.slice oa k oc, .int .i64 (car 0 l).2]) (by simp [results, Try.results79, go_sem]) rfl ⟨oa, oc, rfl, HK.out.1, HK.out.2⟩

end Go.Proofs.Ytgchfbfgjanaiaa

namespace Go.Proofs.Ytgchfbfgjanaiaa
open Go.RowKit Sr

set_option maxRecDepth 100000 in
set_option maxHeartbeats 4000000 in
theorem rSigned_any {w : World} {v : Value} {l : List Int} (h : IntsAt w v l) (hB : ∀ z ∈ l, -1000000000 ≤ z ∧ z ≤ 1000000000) :
    Calls Try.prog 38 #[v] w fun e w' => e = .returned (.int .i64 (sg (vl l))) ∧ Below w.heap.size w w' := by
  have hc := rCarry_any h hB
  have hlen := h.len
  obtain ⟨cc, hcc⟩ : ∃ cc, cc = (car 0 l).2 := ⟨_, rfl⟩
  have hcB := car_bound (B := 1000000000) l 0 hB (by decide)
  rw [← hcc] at hcB hc
  obtain ⟨n, hn⟩ : ∃ n, n = l.length := ⟨_, rfl⟩
  have hn1 : n ≤ 1000000 := by rw [hn]; exact hlen
  have hdl : (car 0 l).1.length = n := by rw [car_length, hn]
  rw [← hn] at hc
  have HC := Sealed.mk hc; clear hc
  have H := Sealed.mk (And.intro hcc (And.intro hn hdl)); clear h hB hlen hdl hn
  go_enter Try.func38, Try.ntmps38
  by_cases h0 : cc = 0
  · have b0 : (cc == 0) = true := by simp [h0]
    have HZ := Sealed.mk (show (car 0 l).2 = 0 by rw [← H.out.1]; exact h0)
    clear hcc
    go_wp2_with (go_at_call 79; go_must ((with_reducible refine HC.out.mono ?_); rintro e w1 ⟨a, c, rfl, ho, hb⟩; have HO := Sealed.mk (And.intro ho hb); clear ho hb))
    go_loopg [5] n (fun jj iv W => ∃ k : Nat, jj = n - k ∧ k ≤ n ∧ iv = .int .i64 (k : Int) ∧ W = w1 ∧ Sealed (∀ j, j < k → ∀ d, (car 0 l).1[j]? = some d → d = 0))
    case atStart => exact ⟨0, rfl, Nat.zero_le _, rfl, rfl, ⟨fun j h => absurd h (Nat.not_lt_zero _)⟩⟩
    case round =>
      obtain ⟨k, rfl, hk, rfl, rfl, HK⟩ := hrel
      by_cases hkn : k < n
      · obtain ⟨d, hd⟩ : ∃ d, (car 0 l).1[k]? = some d := ⟨_, List.getElem?_eq_getElem (by rw [H.out.2.2]; exact hkn)⟩
        obtain ⟨gq, cq, e1⟩ := own_form HO.out.1 (by omega)
        obtain ⟨rfl, _, rfl⟩ := Value.slice.inj e1
        clear e1
        have c1 := own_cell HO.out.1 (b := gq) rfl (zrow_get hd)
        have hkn' : (k : Int) < (n : Int) := by omega
        have hkw : wrap64 ((k : Int) + 1) = (k : Int) + 1 := by unfold wrap64; omega
        have hdB := car_digit l 0 d (List.mem_of_getElem? hd)
        by_cases hd0 : d = 0
        · have bd : (d == 0) = true := by simp [hd0]
          have HD := Sealed.mk (And.intro hd hd0); clear hd hd0 hdB
          go_wp2_with fail
          go_roundg (n - (k + 1))
          case measure => omega
          case rel => exact ⟨k + 1, rfl, by omega, by push_cast; rfl, rfl, ⟨fun j hj d' h' => by
            by_cases hjk : j < k
            · exact HK.out j hjk d' h'
            · obtain rfl : j = k := by omega
              rw [HD.out.1] at h'
              obtain rfl := Option.some.inj h'
              exact HD.out.2⟩⟩
        · have bd : (d == 0) = false := by simp [hd0]
          have hp := signed_some HZ.out (List.mem_of_getElem? hd) hd0
          have HD := Sealed.mk hp; clear hp hd hd0 hdB
          go_wp2_with fail
          go_ret
          exact ⟨by rw [show sg (vl l) = 1 by unfold sg; rw [if_neg (by have := HD.out; omega), if_neg (by have := HD.out; omega)]]; rfl, HO.out.2⟩
      · obtain rfl : k = n := by omega
        have hz := signed_zero HZ.out fun d hd => by
          obtain ⟨j, hj⟩ := List.getElem?_of_mem hd
          exact HK.out j (by rw [← H.out.2.2]; exact (List.getElem?_eq_some_iff.1 hj).1) d hj
        have HD := Sealed.mk hz; clear hz
        go_wp2_with fail
        go_ret
        exact ⟨by rw [HD.out]; rfl, HO.out.2⟩
  · have b0 : (cc == 0) = false := by simp [h0]
    by_cases h1 : cc < 0
    · have b1 : decide (cc < 0) = true := decide_eq_true h1
      have HS := Sealed.mk (signed_neg (l := l) (by rw [← H.out.1]; exact h1))
      clear hcc
      go_wp2_with (go_at_call 79; go_must ((with_reducible refine HC.out.mono ?_); rintro e w1 ⟨a, c, rfl, ho, hb⟩; have HO := Sealed.mk (And.intro ho hb); clear ho hb))
      go_ret
      exact ⟨by rw [show sg (vl l) = -1 by unfold sg; rw [if_pos HS.out]]; rfl, HO.out.2⟩
    · have b1 : decide (cc < 0) = false := decide_eq_false h1
      have HS := Sealed.mk (signed_pos (l := l) (by rw [← H.out.1]; omega))
      clear hcc
      go_wp2_with (go_at_call 79; go_must ((with_reducible refine HC.out.mono ?_); rintro e w1 ⟨a, c, rfl, ho, hb⟩; have HO := Sealed.mk (And.intro ho hb); clear ho hb))
      go_ret
      exact ⟨by rw [show sg (vl l) = 1 by unfold sg; rw [if_neg (by have := HS.out; omega), if_neg (by have := HS.out; omega)]]; rfl, HO.out.2⟩

end Go.Proofs.Ytgchfbfgjanaiaa
