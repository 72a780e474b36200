/-
  shifts of numbers: plain laws
  powers of two: plain laws; two numbers out of those that are made
  sandreckonerlaw01.NumPowers: the walk
-/
import Derived.Test.YtgchfbfgjanaiaaK02
import Derived.Test.YtgchfbfgjanaiaaJ35
import Derived.Test.YtgchfbfgjanaiaaK01
import Derived.Deep.CutRange
set_option linter.unusedSimpArgs false
set_option linter.unusedVariables false
namespace Go.Proofs.Ytgchfbfgjanaiaa
open Go.RowKit Sr

theorem shl_zero (y : Int) : shl 0 y = 0 := by unfold shl shlL; rw [form_zero]; rfl

theorem whole_shl {x y z : Int} (h : Whole x y) : Whole (shl x y) z ↔ Whole x (y + z) := by
  constructor
  · intro k t ht
    have h1 := h t ht
    have h2 := k (t.1, ((t.2 : Int) + y).toNat) (by rw [form_shl h]; exact List.mem_map.2 ⟨t, ht, rfl⟩)
    simp only at h2
    omega
  · intro k t ht
    rw [form_shl h] at ht
    obtain ⟨s, hs, rfl⟩ := List.mem_map.1 ht
    have h1 := h s hs
    have h2 := k s hs
    simp only
    omega

theorem shl_shl {x y z : Int} (h : Whole x y) (k : Whole x (y + z)) : shl (shl x y) z = shl x (y + z) := by
  unfold shl
  congr 1
  show ((form (shl x y)).map _) = _
  rw [form_shl h]
  unfold shlL
  rw [List.map_map]
  apply List.map_congr_left
  intro t ht
  have h1 := h t ht
  have h2 := k t ht
  simp only [Function.comp_def]
  rw [show ((((t.2 : Int) + y).toNat : Nat) : Int) + z = (t.2 : Int) + (y + z) by omega]

theorem shl_none (x : Int) : shl x 0 = x := by have := shl_nat x 0; simpa using this

/-- back again -/
theorem shl_again {x y : Int} (h : Whole x y) : Whole (shl x y) (-y) ∧ shl (shl x y) (-y) = x := by
  have hk : Whole x (y + -y) := fun t ht => by omega
  refine ⟨(whole_shl h).2 hk, ?_⟩
  rw [shl_shl h hk, show y + -y = (0 : Int) by omega, shl_none]

/-- of a sum -/
theorem shl_sum {x z y : Int} (hx : Whole x y) (hz : Whole z y) : Whole (x + z) y ∧ shl (x + z) y = shl x y + shl z y := by
  rcases Int.lt_or_le y 0 with h | h
  · obtain ⟨n, rfl⟩ : ∃ n : Nat, y = -(n : Int) := ⟨y.natAbs, by omega⟩
    have e1 := shl_back hx
    have e2 := shl_back hz
    have e3 : x + z = 2 ^ n * (shl x (-(n : Int)) + shl z (-(n : Int))) := by rw [Int.mul_add, e1, e2]
    refine ⟨whole_iff.2 ⟨_, e3⟩, ?_⟩
    rw [e3, shl_div]
  · obtain ⟨n, rfl⟩ : ∃ n : Nat, y = (n : Int) := ⟨y.natAbs, by omega⟩
    refine ⟨whole_nat _ _, ?_⟩
    rw [shl_nat, shl_nat, shl_nat, Int.mul_add]

theorem wl_pow2 (n : Nat) : wl (2 ^ n) = 1 := by unfold wl; rw [form_pow2]; rfl

theorem shl_one (n : Nat) : shl 1 n = 2 ^ n := by rw [shl_nat, Int.mul_one]

theorem shiftR_nat (x : Int) (n : Nat) : shiftR x n = gv (2 ^ n * x) := by unfold shiftR; rw [if_pos (whole_nat x n), shl_nat]

/-- a shift to the left is a product -/
theorem mulR_pow {x : Int} (hx : Allowed x) (n : Nat) : mulR x (2 ^ n) = shiftR x n := by
  have := hx.1
  unfold mulR
  rw [wl_pow2, Nat.mul_one, if_pos (by unfold wl; omega), shiftR_nat, Int.mul_comm]

theorem shiftR_ways (x y : Int) : ∃ u e, shiftR x y = (u, e) ∧ ((e = 0 ∧ Whole x y ∧ Allowed (shl x y) ∧ u = shl x y) ∨ (e = 5 ∧ Whole x y ∧ u = 0) ∨ (e = 4 ∧ ¬ Whole x y ∧ u = 0)) := by
  unfold shiftR
  by_cases h : Whole x y
  · rw [if_pos h]
    by_cases k : Allowed (shl x y)
    · exact ⟨_, 0, gv_ok k, .inl ⟨rfl, h, k, rfl⟩⟩
    · exact ⟨0, 5, gv_no k, .inr (.inl ⟨rfl, h, rfl⟩)⟩
  · rw [if_neg h]; exact ⟨0, 4, rfl, .inr (.inr ⟨rfl, h, rfl⟩)⟩

theorem shiftR_ok {x y : Int} (h : Whole x y) (k : Allowed (shl x y)) : shiftR x y = (shl x y, 0) := by unfold shiftR; rw [if_pos h, gv_ok k]

/-- the least term decides -/
theorem whole_last {x y : Int} {t : T} (h : (form x)[wl x - 1]? = some t) : Whole x y ↔ 0 ≤ (t.2 : Int) + y := by
  constructor
  · intro k; exact k t (List.mem_of_getElem? h)
  · intro k s hs
    obtain ⟨n, hu⟩ := form_form x
    have hp : ∀ (l : List T) (n : Nat), Under n l → ∀ (i j : Nat) (a b : T), i ≤ j → l[i]? = some a → l[j]? = some b → b.2 ≤ a.2 := by
      intro l
      induction l with
      | nil => intro n _ i j a b _ ha; simp at ha
      | cons c l ih =>
        intro n hu i j a b hij ha hb
        cases i with
        | zero =>
          simp at ha; subst ha
          have := under_mem (c :: l) (c.2 + 1) ⟨by omega, hu.2⟩ b (List.mem_of_getElem? hb)
          omega
        | succ i =>
          cases j with
          | zero => omega
          | succ j => exact ih _ hu.2.1 i j a b (by omega) (by simpa using ha) (by simpa using hb)
    obtain ⟨i, hi⟩ := List.getElem?_of_mem hs
    have hil := (List.getElem?_eq_some_iff.1 hi).1
    have := hp _ _ hu i (wl x - 1) s t (by unfold wl; omega) hi h
    omega

theorem whole_zero (y : Int) : Whole 0 y := fun t ht => by rw [form_zero] at ht; simp at ht

end Go.Proofs.Ytgchfbfgjanaiaa

namespace Go.Proofs.Ytgchfbfgjanaiaa
open Go.RowKit Sr

theorem natAbs_mod {x : Int} (h : Mod x) : Mod (x.natAbs : Int) := by
  rcases Int.natAbs_eq x with e | e
  · rw [← e]; exact h
  · have e2 : ((x.natAbs : Nat) : Int) = -x := by omega
    rw [e2]
    refine ⟨allowed_neg h.1, by rw [wl_neg]; exact h.2.1, ?_⟩
    have := h.2.2
    unfold weight at this ⊢
    rw [plist_neg]; exact this

theorem pow_ways {n : Nat} (h : Mod (n : Int)) : (gv (2 ^ n) = (2 ^ n, 0) ∧ Allowed (2 ^ n) ∧ height (2 ^ n) = height (n : Int) + 1 ∧ height (n : Int) ≤ 99) ∨ (gv (2 ^ n) = (0, 5) ∧ height (n : Int) = 100) := by
  have hh := h.1.2.2.2
  by_cases k : height (n : Int) + 1 ≤ 100
  · obtain ⟨h1, h2, h3⟩ := allowed_pow2 h.1 (by have := h.2.2; omega) k
    exact .inl ⟨gv_ok h1, h1, h3, by omega⟩
  · refine .inr ⟨gv_no fun ha => ?_, by omega⟩
    have he : exps (2 ^ n) = [n] := by simp [exps, form_pow2]
    have : height (2 ^ n) = height (n : Int) + 1 := by rw [height_eq, he]; simp
    have := ha.2.2.2
    omega

theorem sg_pow_self (n : Nat) : sg (2 ^ n - (n : Int)) = 1 := by
  have := lt_two_pow n
  unfold sg
  rw [if_neg (by omega), if_neg (by omega)]

theorem pow_lt {a b : Nat} (h : a < b) : (2 : Int) ^ a < 2 ^ b := by
  have h1 := pow_mono (show a + 1 ≤ b by omega)
  rw [pow_succ'] at h1
  have := two_pow_pos a
  omega

theorem sg_pow_pow (n k : Nat) : sg (2 ^ n - 2 ^ k) = sg ((n : Int) - (k : Int)) := by
  unfold sg
  rcases Nat.lt_trichotomy n k with h | h | h
  · have := pow_lt h
    rw [if_pos (by omega), if_pos (by omega)]
  · subst h; simp
  · have := pow_lt h
    rw [if_neg (by omega), if_neg (by omega), if_neg (by omega), if_neg (by omega)]

theorem sg_pow_more (n k : Nat) : sg (2 ^ n + 2 ^ k - 2 ^ n) = 1 ∧ sg (2 ^ n + 2 ^ k - 2 ^ k) = 1 := by
  have h1 := two_pow_pos n
  have h2 := two_pow_pos k
  unfold sg
  exact ⟨by rw [if_neg (by omega), if_neg (by omega)], by rw [if_neg (by omega), if_neg (by omega)]⟩

theorem termsZ_pow (n : Nat) : termsZ (2 ^ n) = [(false, (n : Int))] := by unfold termsZ; rw [form_pow2]; rfl

theorem pick_two {w W2 : World} {av : Option Addr} {cv : Nat} {zs : List Int} {ps : List (Option Addr)} (hns : NsOwn W2 w.heap.size (.slice av zs.length cv) zs ps) (hml : MadeL zs) (hb2 : Below w.heap.size w W2) (b0 b1 : Int) :
    ∃ (x y : Int) (px py : Option Addr) (bb oo m i j : Nat), av = some ⟨bb, oo, none⟩ ∧ m = zs.length ∧ m ≤ cv ∧ i < m ∧ j < m ∧
      (∀ W, Calls Try.prog 46 #[.int .i64 b0, .int .i64 (m : Int)] W fun e w' => e = .returned (.int .i64 (i : Int)) ∧ w' = W) ∧
      (∀ W, Calls Try.prog 46 #[.int .i64 b1, .int .i64 (m : Int)] W fun e w' => e = .returned (.int .i64 (j : Int)) ∧ w' = W) ∧
      (∀ W, Below W2.heap.size W2 W → W.cell? ⟨bb, oo + i, none⟩ = some (.pointer px) ∧ W.cell? ⟨bb, oo + j, none⟩ = some (.pointer py)) ∧
      St w W2 [] [] ∧ NumIs W2 (.agg #[.pointer px]) x ∧ NumIs W2 (.agg #[.pointer py]) y ∧ Mod x ∧ Mod y := by
  have hpos : 0 < zs.length := by have := hml.1; omega
  have hle : zs.length ≤ 100000 := by have := hml.2.1; omega
  obtain ⟨i, hi, -, hr1⟩ := lawRest_pick b0 hpos hle
  obtain ⟨j, hj, -, hr2⟩ := lawRest_pick b1 hpos hle
  obtain ⟨bb, oo, c, px, x, e1, hc, hbb, hx, hcx, hnx⟩ := hns.at_.pick hi
  obtain ⟨bb', oo', c', py, y, e2, -, -, hy, hcy, hny⟩ := hns.at_.pick hj
  obtain ⟨rfl, -, rfl⟩ := Value.slice.inj e1
  obtain ⟨e2', -, -⟩ := Value.slice.inj e2
  obtain ⟨rfl, rfl⟩ : bb = bb' ∧ oo = oo' := by simpa using e2'
  refine ⟨x, y, px, py, bb, oo, zs.length, i, j, rfl, rfl, hc, hi, hj, hr1, hr2, fun W hb => ?_, (St.start w).adv hb2, hnx, hny, ⟨hnx.1, hml.2.2 x (List.mem_of_getElem? hx)⟩, ⟨hny.1, hml.2.2 y (List.mem_of_getElem? hy)⟩⟩
  have hs := fun q => cell_same (hb.block _ hbb) q
  exact ⟨(hs _).trans hcx, (hs _).trans hcy⟩

end Go.Proofs.Ytgchfbfgjanaiaa

namespace Go.Proofs.Ytgchfbfgjanaiaa
open Go.RowKit Sr

set_option maxRecDepth 100000 in
set_option maxHeartbeats 4000000 in
theorem lawPowers_any {w : World} {v : Value} {ops : List (Int × Int × Int × Int)} (h : OpsAt w v ops) {n1 n2 : Int} (hn1 : Is64 n1) (hn2 : Is64 n2) : Calls Try.prog 10 #[v, .int .i64 n1, .int .i64 n2] w fun e w' => e = .returned (.bool true) ∧ Below w.heap.size w w' := by
  clear hn1 hn2
  have hmd := lawMade_any h
  have HM := Sealed.mk hmd; clear hmd h
  go_enter Try.func10, Try.ntmps10
  go_upto_region 2 with (go_at_call 40; go_must (refine HM.out.mono ?_; rintro e W2 ⟨av, cv, zs, ps, rfl, hns, hml, hb2⟩; have H2 := Sealed.mk (And.intro hns (And.intro hml hb2)); clear hns hml hb2))
  clear HM
  obtain ⟨y, z, py, pz, bb, oo, m, i, j, rfl, hm, hmc, hi, hj, hr1, hr2, hC, S2, ny, nz, hy, hz⟩ := pick_two H2.out.1 H2.out.2.1 H2.out.2.2 n1 n2
  rw [← hm]
  have HR := Sealed.mk (And.intro hr1 hr2); clear hr1 hr2
  have HC := Sealed.mk hC; clear hC
  have HZ := Sealed.mk (And.intro hy hz); clear hy hz
  replace H2 := Sealed.mk (And.intro S2 (And.intro ny nz)); clear S2 ny nz hm
  go_cut [8, 9] from 25 to 38 (fun va vb wx => ∃ ka kb, va = .pointer (some ⟨ka, 0, none⟩) ∧ vb = .pointer (some ⟨kb, 0, none⟩) ∧ St w wx [] [(ka, py, y), (kb, pz, z)])
  case first =>
    refine wp_region_noPanic ?_
    refine wp_region_held_drew (S := fun W => W.cell? ⟨bb, oo + i, none⟩ = some (.pointer py) ∧ W.cell? ⟨bb, oo + j, none⟩ = some (.pointer pz)) (by kernel_rfl) ?_ (fun hHeld => ?_)
    · exact HC.out _ (below_drew _)
    refine wpAnyH_take (i := 0) (v := ?_) rfl (by kernel_rfl) (by kernel_rfl) (by kernel_rfl) (fun _ _ _ h => h) (Or.inl ⟨by rfl, ?_⟩) (by assumption) ?_
    rotate_left
    · intro w hSw; (try dsimp only at hSw); go_simp; first | done | with_reducible rfl
    simp only [Act.put, List.getElem_toArray, List.getElem_cons_zero, List.getElem_cons_succ, List.setIfInBounds_toArray, List.set_cons_zero, List.set_cons_succ]
    refine wpAnyH_take (i := 1) (v := ?_) rfl (by kernel_rfl) (by kernel_rfl) (by kernel_rfl) (fun _ _ _ h => h) (Or.inl ⟨by rfl, ?_⟩) (by assumption) ?_
    rotate_left
    · intro w hSw; (try dsimp only at hSw); go_simp; first | done | with_reducible rfl
    simp only [Act.put, List.getElem_toArray, List.getElem_cons_zero, List.getElem_cons_succ, List.setIfInBounds_toArray, List.set_cons_zero, List.set_cons_succ]
    refine wpAnyH_take (i := 2) (v := ?_) rfl (by kernel_rfl) (by kernel_rfl) (by kernel_rfl) (fun _ _ _ h => h) (Or.inl ⟨by rfl, ?_⟩) (by assumption) ?_
    rotate_left
    · intro w hSw; (try dsimp only at hSw); go_simp; first | done | with_reducible rfl
    simp only [Act.put, List.getElem_toArray, List.getElem_cons_zero, List.getElem_cons_succ, List.setIfInBounds_toArray, List.set_cons_zero, List.set_cons_succ]
    refine wpAnyH_take (i := 3) (v := ?_) rfl (by kernel_rfl) (by kernel_rfl) (by kernel_rfl) (fun _ _ _ h => h) (Or.inl ⟨by rfl, ?_⟩) (by assumption) ?_
    rotate_left
    · intro w hSw; (try dsimp only at hSw); go_simp; first | done | with_reducible rfl
    simp only [Act.put, List.getElem_toArray, List.getElem_cons_zero, List.getElem_cons_succ, List.setIfInBounds_toArray, List.set_cons_zero, List.set_cons_succ]
    refine wpAnyH_call (i := 4) (v := .int .i64 (i : Int)) rfl (by kernel_rfl) (by kernel_rfl) (by kernel_rfl) (fun _ _ _ h => h) ⟨by rfl, ?_⟩ (by assumption) ?_
    · intro w hSw; refine ⟨_, _, by go_simp; exact ⟨rfl, rfl⟩, ?_⟩; exact HR.out.1 _
    simp only [Act.put, List.getElem_toArray, List.getElem_cons_zero, List.getElem_cons_succ, List.setIfInBounds_toArray, List.set_cons_zero, List.set_cons_succ]
    refine wpAnyH_take (i := 5) (v := ?_) rfl (by kernel_rfl) (by kernel_rfl) (by kernel_rfl) (fun _ _ _ h => h) (Or.inl ⟨by rfl, ?_⟩) (by assumption) ?_
    rotate_left
    · intro w hSw; (try dsimp only at hSw); go_simp; first | done | with_reducible rfl
    simp only [Act.put, List.getElem_toArray, List.getElem_cons_zero, List.getElem_cons_succ, List.setIfInBounds_toArray, List.set_cons_zero, List.set_cons_succ]
    refine wpAnyH_take (i := 6) (v := ?_) rfl (by kernel_rfl) (by kernel_rfl) (by kernel_rfl) (fun _ _ _ h => h) (Or.inl ⟨by rfl, ?_⟩) (by assumption) ?_
    rotate_left
    · intro w hSw; (try dsimp only at hSw); go_simp; first | done | with_reducible rfl
    simp only [Act.put, List.getElem_toArray, List.getElem_cons_zero, List.getElem_cons_succ, List.setIfInBounds_toArray, List.set_cons_zero, List.set_cons_succ]
    refine wpAnyH_take (i := 7) (v := ?_) rfl (by kernel_rfl) (by kernel_rfl) (by kernel_rfl) (fun _ _ _ h => h) (Or.inl ⟨by rfl, ?_⟩) (by assumption) ?_
    rotate_left
    · intro w hSw; (try dsimp only at hSw); go_simp; first | done | with_reducible rfl
    simp only [Act.put, List.getElem_toArray, List.getElem_cons_zero, List.getElem_cons_succ, List.setIfInBounds_toArray, List.set_cons_zero, List.set_cons_succ]
    refine wpAnyH_take (i := 8) (v := ?_) rfl (by kernel_rfl) (by kernel_rfl) (by kernel_rfl) (fun _ _ _ h => h) (Or.inl ⟨by rfl, ?_⟩) (by assumption) ?_
    rotate_left
    · intro w hSw; (try dsimp only at hSw); go_simp; first | done | with_reducible rfl
    simp only [Act.put, List.getElem_toArray, List.getElem_cons_zero, List.getElem_cons_succ, List.setIfInBounds_toArray, List.set_cons_zero, List.set_cons_succ]
    refine wpAnyH_take (i := 9) (v := ?_) rfl (by kernel_rfl) (by kernel_rfl) (by kernel_rfl) (fun _ _ _ h => h) (Or.inl ⟨by rfl, ?_⟩) (by assumption) ?_
    rotate_left
    · intro w hSw; (try dsimp only at hSw); go_simp; first | done | with_reducible rfl
    simp only [Act.put, List.getElem_toArray, List.getElem_cons_zero, List.getElem_cons_succ, List.setIfInBounds_toArray, List.set_cons_zero, List.set_cons_succ]
    refine wpAnyH_take (i := 10) (v := ?_) rfl (by kernel_rfl) (by kernel_rfl) (by kernel_rfl) (fun _ _ _ h => h) (Or.inl ⟨by rfl, ?_⟩) (by assumption) ?_
    rotate_left
    · intro w hSw; (try dsimp only at hSw); go_simp; first | done | with_reducible rfl
    simp only [Act.put, List.getElem_toArray, List.getElem_cons_zero, List.getElem_cons_succ, List.setIfInBounds_toArray, List.set_cons_zero, List.set_cons_succ]
    refine wpAnyH_call (i := 11) (v := .int .i64 (j : Int)) rfl (by kernel_rfl) (by kernel_rfl) (by kernel_rfl) (fun _ _ _ h => h) ⟨by rfl, ?_⟩ (by assumption) ?_
    · intro w hSw; refine ⟨_, _, by go_simp; exact ⟨rfl, rfl⟩, ?_⟩; exact HR.out.2 _
    simp only [Act.put, List.getElem_toArray, List.getElem_cons_zero, List.getElem_cons_succ, List.setIfInBounds_toArray, List.set_cons_zero, List.set_cons_succ]
    refine wpAnyH_take (i := 12) (v := ?_) rfl (by kernel_rfl) (by kernel_rfl) (by kernel_rfl) (fun _ _ _ h => h) (Or.inl ⟨by rfl, ?_⟩) (by assumption) ?_
    rotate_left
    · intro w hSw; (try dsimp only at hSw); go_simp; first | done | with_reducible rfl
    simp only [Act.put, List.getElem_toArray, List.getElem_cons_zero, List.getElem_cons_succ, List.setIfInBounds_toArray, List.set_cons_zero, List.set_cons_succ]
    refine wpAnyH_take (i := 13) (v := ?_) rfl (by kernel_rfl) (by kernel_rfl) (by kernel_rfl) (fun _ _ _ h => h) (Or.inl ⟨by rfl, ?_⟩) (by assumption) ?_
    rotate_left
    · intro w hSw; (try dsimp only at hSw); go_simp; first | done | with_reducible rfl
    simp only [Act.put, List.getElem_toArray, List.getElem_cons_zero, List.getElem_cons_succ, List.setIfInBounds_toArray, List.set_cons_zero, List.set_cons_succ]
    refine wpAnyH_ready (rs := [14, 15]) (by kernel_rfl) (by simp) ?_
    refine AllReadyH.cons rfl (fun K hK => ?_) (AllReadyH.cons rfl (fun K hK => ?_) (AllReadyH.nil))
    · go_simp
      refine hK.out _ _ ?_ (fun hHeld => ?_)
      · exact HC.out _ (by repeat (first | exact Below.refl _ _ | refine below_dr ?_ | refine below_al ?_ | refine below_se ?_ (by omega)))
      clear hK K
      try simp only [Act.put, List.getElem_toArray, List.getElem_cons_zero, List.getElem_cons_succ, List.setIfInBounds_toArray, List.set_cons_zero, List.set_cons_succ]
      refine wpAnyH_ready (rs := [15]) (by kernel_rfl) (by simp) ?_
      refine AllReadyH.cons rfl (fun K hK => ?_) (AllReadyH.nil)
      go_simp
      refine hK.out _ _ ?_ (fun hHeld => ?_)
      · exact HC.out _ (by repeat (first | exact Below.refl _ _ | refine below_dr ?_ | refine below_al ?_ | refine below_se ?_ (by omega)))
      clear hK K
      try simp only [Act.put, List.getElem_toArray, List.getElem_cons_zero, List.getElem_cons_succ, List.setIfInBounds_toArray, List.set_cons_zero, List.set_cons_succ]
      refine wpAnyH_ready (rs := [16]) (by kernel_rfl) (by simp) ?_
      refine AllReadyH.cons rfl (fun K hK => ?_) (AllReadyH.nil)
      go_simp
      refine hK.out _ _ ?_ (fun hHeld => ?_)
      · exact HC.out _ (by repeat (first | exact Below.refl _ _ | refine below_dr ?_ | refine below_al ?_ | refine below_se ?_ (by omega)))
      clear hK K
      try simp only [Act.put, List.getElem_toArray, List.getElem_cons_zero, List.getElem_cons_succ, List.setIfInBounds_toArray, List.set_cons_zero, List.set_cons_succ]
      refine wpAnyH_ready (rs := [17]) (by kernel_rfl) (by simp) ?_
      refine AllReadyH.cons rfl (fun K hK => ?_) (AllReadyH.nil)
      go_simp
      refine hK.out _ _ ?_ (fun hHeld => ?_)
      · exact HC.out _ (by repeat (first | exact Below.refl _ _ | refine below_dr ?_ | refine below_al ?_ | refine below_se ?_ (by omega)))
      clear hK K
      try simp only [Act.put, List.getElem_toArray, List.getElem_cons_zero, List.getElem_cons_succ, List.setIfInBounds_toArray, List.set_cons_zero, List.set_cons_succ]
      refine wpAnyH_done (by kernel_rfl) ?_ _
      refine NoPanic.normal ?_
      go_wp2_with fail
      go_meet
      case rel =>
        first
          | exact ⟨_, _, rfl, rfl, (H2.out.1.new2 H2.out.2.1 H2.out.2.2).dr.sub (by simp) (by simp <;> omega)⟩
          | exact ⟨_, _, rfl, rfl, (H2.out.1.new2 H2.out.2.2 H2.out.2.1).dr.sub (by simp) (by simp <;> omega)⟩
    · go_simp
      refine hK.out _ _ ?_ (fun hHeld => ?_)
      · exact HC.out _ (by repeat (first | exact Below.refl _ _ | refine below_dr ?_ | refine below_al ?_ | refine below_se ?_ (by omega)))
      clear hK K
      try simp only [Act.put, List.getElem_toArray, List.getElem_cons_zero, List.getElem_cons_succ, List.setIfInBounds_toArray, List.set_cons_zero, List.set_cons_succ]
      refine wpAnyH_ready (rs := [14]) (by kernel_rfl) (by simp) ?_
      refine AllReadyH.cons rfl (fun K hK => ?_) (AllReadyH.nil)
      go_simp
      refine hK.out _ _ ?_ (fun hHeld => ?_)
      · exact HC.out _ (by repeat (first | exact Below.refl _ _ | refine below_dr ?_ | refine below_al ?_ | refine below_se ?_ (by omega)))
      clear hK K
      try simp only [Act.put, List.getElem_toArray, List.getElem_cons_zero, List.getElem_cons_succ, List.setIfInBounds_toArray, List.set_cons_zero, List.set_cons_succ]
      refine wpAnyH_ready (rs := [16]) (by kernel_rfl) (by simp) ?_
      refine AllReadyH.cons rfl (fun K hK => ?_) (AllReadyH.nil)
      go_simp
      refine hK.out _ _ ?_ (fun hHeld => ?_)
      · exact HC.out _ (by repeat (first | exact Below.refl _ _ | refine below_dr ?_ | refine below_al ?_ | refine below_se ?_ (by omega)))
      clear hK K
      try simp only [Act.put, List.getElem_toArray, List.getElem_cons_zero, List.getElem_cons_succ, List.setIfInBounds_toArray, List.set_cons_zero, List.set_cons_succ]
      refine wpAnyH_ready (rs := [17]) (by kernel_rfl) (by simp) ?_
      refine AllReadyH.cons rfl (fun K hK => ?_) (AllReadyH.nil)
      go_simp
      refine hK.out _ _ ?_ (fun hHeld => ?_)
      · exact HC.out _ (by repeat (first | exact Below.refl _ _ | refine below_dr ?_ | refine below_al ?_ | refine below_se ?_ (by omega)))
      clear hK K
      try simp only [Act.put, List.getElem_toArray, List.getElem_cons_zero, List.getElem_cons_succ, List.setIfInBounds_toArray, List.set_cons_zero, List.set_cons_succ]
      refine wpAnyH_done (by kernel_rfl) ?_ _
      refine NoPanic.normal ?_
      go_wp2_with fail
      go_meet
      case rel =>
        first
          | exact ⟨_, _, rfl, rfl, (H2.out.1.new2 H2.out.2.1 H2.out.2.2).dr.sub (by simp) (by simp <;> omega)⟩
          | exact ⟨_, _, rfl, rfl, (H2.out.1.new2 H2.out.2.2 H2.out.2.1).dr.sub (by simp) (by simp <;> omega)⟩
  case rest =>
    obtain ⟨ka, kb, rfl, rfl, hS⟩ := hcut
    obtain ⟨W3, hW3⟩ : ∃ W3, W3 = wc := ⟨_, rfl⟩
    rw [← hW3] at hS ⊢
    clear hW3 H2 HC HR
    have S := Sealed.mk hS; clear hS
    obtain ⟨n, hn⟩ : ∃ n : Nat, n = y.natAbs := ⟨_, rfl⟩
    obtain ⟨k, hk⟩ : ∃ k : Nat, k = z.natAbs := ⟨_, rfl⟩
    have HMN : Sealed (Mod (n : Int) ∧ Mod (k : Int)) := ⟨by rw [hn]; exact natAbs_mod HZ.out.1, by rw [hk]; exact natAbs_mod HZ.out.2⟩
    obtain ⟨sy, hsy⟩ : ∃ s, s = sg y := ⟨_, rfl⟩
    obtain ⟨sz, hsz⟩ : ∃ s, s = sg z := ⟨_, rfl⟩
    obtain ⟨by_, hby⟩ : ∃ b : Bool, b = decide (sy < 0) := ⟨_, rfl⟩
    obtain ⟨bz, hbz⟩ : ∃ b : Bool, b = decide (sz < 0) := ⟨_, rfl⟩
    have HNY : Sealed ((by_ = false → y = (n : Int)) ∧ (by_ = true → -y = (n : Int))) := ⟨by
      rw [hby, hsy, hn]
      rcases sg_cases y with ⟨h1, h2⟩ | ⟨h1, h2⟩ | ⟨h1, h2⟩ <;> rw [h2] <;> simp <;> omega⟩
    have HNZ : Sealed ((bz = false → z = (k : Int)) ∧ (bz = true → -z = (k : Int))) := ⟨by
      rw [hbz, hsz, hk]
      rcases sg_cases z with ⟨h1, h2⟩ | ⟨h1, h2⟩ | ⟨h1, h2⟩ <;> rw [h2] <;> simp <;> omega⟩
    have HSY := Sealed.mk (And.intro hsy (And.intro hsz (And.intro hby hbz)))
    have hof1 := fun W => Of_one (n := 1) (by unfold Is64; decide) W
    have OF := Sealed.mk hof1
    clear hn hk hsy hsz hby hbz hof1 HZ
    go_upto_region 3 with fail
    go_cut [41] from 39 to 41 (fun v wx => v = .bool by_ ∧ Below W3.heap.size W3 wx)
    case first =>
      have HB := Sealed.mk (Below.refl W3.heap.size W3)
      have ld0 := S.out.cell 0 rfl
      go_wp2_with (first
        | (go_at_call 42; go_must (first
            | ((with_reducible refine (Sign_any (S.out.cnum 0 rfl)).mono ?_); rintro e w11 ⟨rfl, hb⟩; rw [← HSY.out.1]; replace S := Sealed.mk (S.out.adv hb); replace HB := Sealed.mk (below_chain HB.out hb); clear hb; have lx0 := S.out.cell 0 rfl))))
      all_goals
        go_meet
        case rel => exact ⟨by rw [HSY.out.2.2.1], HB.out⟩
    case rest =>
      obtain ⟨rfl, hbc⟩ := hcut
      obtain ⟨W12, hW12⟩ : ∃ W12, W12 = wc := ⟨_, rfl⟩
      rw [← hW12] at hbc ⊢
      clear hW12
      replace S := Sealed.mk (S.out.adv hbc)
      clear hbc
      go_upto_if 41 with fail
      go_cut [41] from 42 to 43 (fun _ wx => ∃ p1, St w wx [] [(ka, p1, (n : Int)), (kb, pz, z)])
      case first =>
        cases by_ with
        | false =>
          have e := HNY.out.1 rfl
          go_wp2_with fail
          go_meet
          case rel =>
            have := S.out
            rw [e] at this
            exact ⟨_, this⟩
        | true =>
          have e := Sealed.mk (HNY.out.2 rfl)
          have ld0 := S.out.cell 0 rfl
          go_wp2_with (go_at_call 39; go_must ((with_reducible refine (Neg_one (S.out.cnum 0 rfl)).mono ?_); rintro e w5 ⟨p5, rfl, hb, hn⟩; rw [e.out] at hn; replace S := Sealed.mk (S.out.res hb hn); have lx0 := S.out.cell 0 rfl; have lf0 := S.out.frozen 0 rfl; clear hb hn))
          go_meet
          case rel => exact ⟨_, (S.out.put 0 rfl (S.out.num 0 rfl)).clr⟩
      case rest =>
        obtain ⟨p13, hcut⟩ := hcut
        obtain ⟨W13, hW13⟩ : ∃ W13, W13 = wc := ⟨_, rfl⟩
        rw [← hW13] at hcut ⊢
        clear hW13 S
        have S := Sealed.mk hcut; clear hcut
        go_upto_region 5 with fail
        go_cut [46] from 44 to 46 (fun v wx => v = .bool bz ∧ Below W13.heap.size W13 wx)
        case first =>
          have HB := Sealed.mk (Below.refl W13.heap.size W13)
          have ld0 := S.out.cell 1 rfl
          go_wp2_with (first
            | (go_at_call 42; go_must (first
                | ((with_reducible refine (Sign_any (S.out.cnum 1 rfl)).mono ?_); rintro e w14 ⟨rfl, hb⟩; rw [← HSY.out.2.1]; replace S := Sealed.mk (S.out.adv hb); replace HB := Sealed.mk (below_chain HB.out hb); clear hb; have lx0 := S.out.cell 1 rfl))))
          all_goals
            go_meet
            case rel => exact ⟨by rw [HSY.out.2.2.2], HB.out⟩
        case rest =>
          obtain ⟨rfl, hbc⟩ := hcut
          obtain ⟨W15, hW15⟩ : ∃ W15, W15 = wc := ⟨_, rfl⟩
          rw [← hW15] at hbc ⊢
          clear hW15
          replace S := Sealed.mk (S.out.adv hbc)
          clear hbc
          go_upto_if 46 with fail
          go_cut [46] from 47 to 48 (fun _ wx => ∃ p1, St w wx [] [(ka, p13, (n : Int)), (kb, p1, (k : Int))])
          case first =>
            cases bz with
            | false =>
              have e := HNZ.out.1 rfl
              go_wp2_with fail
              go_meet
              case rel =>
                have := S.out
                rw [e] at this
                exact ⟨_, this⟩
            | true =>
              have e := Sealed.mk (HNZ.out.2 rfl)
              have ld0 := S.out.cell 1 rfl
              go_wp2_with (go_at_call 39; go_must ((with_reducible refine (Neg_one (S.out.cnum 1 rfl)).mono ?_); rintro e w5 ⟨p5, rfl, hb, hn⟩; rw [e.out] at hn; replace S := Sealed.mk (S.out.res hb hn); have lx0 := S.out.cell 1 rfl; have lf0 := S.out.frozen 1 rfl; clear hb hn))
              go_meet
              case rel => exact ⟨_, (S.out.put 1 rfl (S.out.num 0 rfl)).clr⟩
          case rest =>
            obtain ⟨p16, hcut⟩ := hcut
            obtain ⟨W16, hW16⟩ : ∃ W16, W16 = wc := ⟨_, rfl⟩
            rw [← hW16] at hcut ⊢
            clear hW16 S
            have S := Sealed.mk hcut; clear hcut
            go_upto_region 7 with fail
            clear HNY HNZ HSY
            obtain ⟨vp, ep, gp, qp⟩ : ∃ vp ep, gv (2 ^ n) = (vp, ep) ∧ ((ep = 0 ∧ vp = 2 ^ n ∧ Allowed (2 ^ n) ∧ height (2 ^ n) = height (n : Int) + 1 ∧ height (n : Int) ≤ 99) ∨ (ep = 5 ∧ vp = 0 ∧ height (n : Int) = 100)) := by
              rcases pow_ways HMN.out.1 with ⟨h1, h2, h3, h4⟩ | ⟨h1, h2⟩
              · exact ⟨_, _, h1, .inl ⟨rfl, rfl, h2, h3, h4⟩⟩
              · exact ⟨_, _, h1, .inr ⟨rfl, rfl, h2⟩⟩
            obtain ⟨vq, eq, gq, qq⟩ : ∃ vp ep, gv (2 ^ k) = (vp, ep) ∧ ((ep = 0 ∧ vp = 2 ^ k ∧ Allowed (2 ^ k) ∧ height (2 ^ k) = height (k : Int) + 1 ∧ height (k : Int) ≤ 99) ∨ (ep = 5 ∧ vp = 0 ∧ height (k : Int) = 100)) := by
              rcases pow_ways HMN.out.2 with ⟨h1, h2, h3, h4⟩ | ⟨h1, h2⟩
              · exact ⟨_, _, h1, .inl ⟨rfl, rfl, h2, h3, h4⟩⟩
              · exact ⟨_, _, h1, .inr ⟨rfl, rfl, h2⟩⟩
            have GP : Sealed (shiftR 1 (n : Int) = (vp, ep)) := ⟨by rw [shiftR_nat, Int.mul_one]; exact gp⟩
            have GQ : Sealed (shiftR 1 (k : Int) = (vq, eq)) := ⟨by rw [shiftR_nat, Int.mul_one]; exact gq⟩
            have QP := Sealed.mk (And.intro qp qq)
            clear gp gq qp qq
            go_cut [10, 11] from 49 to 54 (fun vn ve wx => ∃ kn pn, vn = .pointer (some ⟨kn, 0, none⟩) ∧ ve = .int .i64 ep ∧ St w wx [] [(kn, pn, vp), (ka, p13, (n : Int)), (kb, p16, (k : Int))])
            case first =>
              go_region_held3 (fun W => W.cell? ⟨ka, 0, none⟩ = some (.pointer p13))
                (first
                  | exact S.out.cell 0 rfl
                  | exact S.out.dr.cell 0 rfl
                  | exact S.out.cell 1 rfl
                  | exact (S.out.new (NumIs.zero _)).dr.cell 1 rfl
                  | exact (S.out.new (NumIs.zero _)).cell 1 rfl
                  | exact (S.out.put 0 rfl (S.out.num 0 rfl)).cell 1 rfl
                  | exact (S.out.new (S.out.num 0 rfl)).cell 1 rfl
                  | fail)
                (first
                  | (go_at_call 21; go_must ((with_reducible refine (OF.out _).mono ?_); rintro e w17 ⟨p17, rfl, hb, hn⟩; first | (replace S := Sealed.mk (S.out.dr.res hb hn)) | (replace S := Sealed.mk ((S.out.new (NumIs.zero _)).dr.res hb hn)); clear hb hn))
                  | (go_at_call 25; go_must (first
                      | ((with_reducible refine (Shift_two GP.out (S.out.num 0 rfl) (S.out.cnum 0 rfl)).mono ?_); rintro e w17' ⟨p17', rfl, hb, hn⟩; replace S := Sealed.mk (S.out.res hb hn); clear hb hn)
                      | ((with_reducible refine (Shift_two GP.out (S.out.num 0 rfl) (S.out.cnum 1 rfl)).mono ?_); rintro e w17' ⟨p17', rfl, hb, hn⟩; replace S := Sealed.mk (S.out.res hb hn); have zc := S.out.cell 0 rfl; have zf := S.out.frozen 0 rfl; clear hb hn)
                      | ((with_reducible refine (Shift_two GP.out ((S.out.new (NumIs.zero _)).num 0 rfl) ((S.out.new (NumIs.zero _)).cnum 1 rfl)).mono ?_); rintro e w17' ⟨p17', rfl, hb, hn⟩; replace S := Sealed.mk ((S.out.new (NumIs.zero _)).res hb hn); have zc := S.out.cell 0 rfl; have zf := S.out.frozen 0 rfl; clear hb hn))))
              all_goals
                go_wp2_with fail
                go_meet
                case rel =>
                  first
                    | exact ⟨_, _, rfl, rfl, (S.out.new (S.out.num 0 rfl)).clr⟩
                    | exact ⟨_, _, rfl, rfl, (S.out.put 0 rfl (S.out.num 0 rfl)).clr⟩
            case rest =>
              obtain ⟨kn17, pn17, rfl, rfl, hS⟩ := hcut
              obtain ⟨W17, hW17⟩ : ∃ W17, W17 = wc := ⟨_, rfl⟩
              rw [← hW17] at hS ⊢
              clear hW17
              replace S := Sealed.mk hS
              clear hS
              go_upto_region 8 with fail
              go_cut [12, 13] from 55 to 60 (fun vn ve wx => ∃ kn pn, vn = .pointer (some ⟨kn, 0, none⟩) ∧ ve = .int .i64 eq ∧ St w wx [] [(kn, pn, vq), (kn17, pn17, vp), (ka, p13, (n : Int)), (kb, p16, (k : Int))])
              case first =>
                go_region_held3 (fun W => W.cell? ⟨kb, 0, none⟩ = some (.pointer p16))
                  (first
                    | exact S.out.cell 2 rfl
                    | exact S.out.dr.cell 2 rfl
                    | exact S.out.cell 3 rfl
                    | exact (S.out.new (NumIs.zero _)).dr.cell 3 rfl
                    | exact (S.out.new (NumIs.zero _)).cell 3 rfl
                    | exact (S.out.put 0 rfl (S.out.num 0 rfl)).cell 3 rfl
                    | exact (S.out.new (S.out.num 0 rfl)).cell 3 rfl
                    | fail)
                  (first
                    | (go_at_call 21; go_must ((with_reducible refine (OF.out _).mono ?_); rintro e w18 ⟨p18, rfl, hb, hn⟩; first | (replace S := Sealed.mk (S.out.dr.res hb hn)) | (replace S := Sealed.mk ((S.out.new (NumIs.zero _)).dr.res hb hn)); clear hb hn))
                    | (go_at_call 25; go_must (first
                        | ((with_reducible refine (Shift_two GQ.out (S.out.num 0 rfl) (S.out.cnum 2 rfl)).mono ?_); rintro e w18' ⟨p18', rfl, hb, hn⟩; replace S := Sealed.mk (S.out.res hb hn); clear hb hn)
                        | ((with_reducible refine (Shift_two GQ.out (S.out.num 0 rfl) (S.out.cnum 3 rfl)).mono ?_); rintro e w18' ⟨p18', rfl, hb, hn⟩; replace S := Sealed.mk (S.out.res hb hn); have zc := S.out.cell 0 rfl; have zf := S.out.frozen 0 rfl; clear hb hn)
                        | ((with_reducible refine (Shift_two GQ.out ((S.out.new (NumIs.zero _)).num 0 rfl) ((S.out.new (NumIs.zero _)).cnum 3 rfl)).mono ?_); rintro e w18' ⟨p18', rfl, hb, hn⟩; replace S := Sealed.mk ((S.out.new (NumIs.zero _)).res hb hn); have zc := S.out.cell 0 rfl; have zf := S.out.frozen 0 rfl; clear hb hn))))
                all_goals
                  go_wp2_with fail
                  go_meet
                  case rel =>
                    first
                      | exact ⟨_, _, rfl, rfl, (S.out.new (S.out.num 0 rfl)).clr⟩
                      | exact ⟨_, _, rfl, rfl, (S.out.put 0 rfl (S.out.num 0 rfl)).clr⟩
              case rest =>
                obtain ⟨kn18, pn18, rfl, rfl, hS⟩ := hcut
                obtain ⟨W18, hW18⟩ : ∃ W18, W18 = wc := ⟨_, rfl⟩
                rw [← hW18] at hS ⊢
                clear hW18
                replace S := Sealed.mk hS
                clear hS
                go_upto_region 9 with fail
                obtain ⟨hn', hhn⟩ : ∃ h : Nat, h = height (n : Int) := ⟨_, rfl⟩
                obtain ⟨hk', hhk⟩ : ∃ h : Nat, h = height (k : Int) := ⟨_, rfl⟩
                have HH := Sealed.mk (And.intro hhn hhk)
                obtain ⟨qp, qq⟩ := QP.out
                rw [← hhn] at qp
                rw [← hhk] at qq
                clear hhn hhk QP
                have hbad : (ep = 0 ∧ eq = 0) ∨ ((¬ (ep = 0 ∧ eq = 0)) ∧ (hn' = 100 ∨ hk' = 100)) := by
                  rcases qp with ⟨rfl, h⟩ | ⟨rfl, h⟩ <;> rcases qq with ⟨rfl, k⟩ | ⟨rfl, k⟩
                  · exact .inl ⟨rfl, rfl⟩
                  · exact .inr ⟨by omega, .inr k.2⟩
                  · exact .inr ⟨by omega, .inl h.2⟩
                  · exact .inr ⟨by omega, .inl h.2⟩
                rcases hbad with ⟨rfl, rfl⟩ | ⟨hne, hor⟩
                rotate_left
                · have hep : ep = 0 ∨ ep = 5 := by rcases qp with ⟨h, -⟩ | ⟨h, -⟩ <;> simp [h]
                  have heq : eq = 0 ∨ eq = 5 := by rcases qq with ⟨h, -⟩ | ⟨h, -⟩ <;> simp [h]
                  clear qp qq GP GQ
                  have ld0 := S.out.cell 2 rfl
                  have ld1 := S.out.cell 3 rfl
                  have hor2 : hn' = 100 ∨ (¬ hn' = 100 ∧ hk' = 100) := by omega
                  rcases hor2 with rfl | ⟨h1, rfl⟩ <;> rcases hep with rfl | rfl <;> rcases heq with rfl | rfl
                  all_goals
                    first
                      | exact absurd ⟨rfl, rfl⟩ hne
                      | skip
                  all_goals
                    clear hne hor
                    go_wp2_with (first
                      | (go_at_call 43; go_must (first
                          | ((with_reducible refine (Height_any (S.out.cnum 2 rfl)).mono ?_); rintro e w60 ⟨rfl, hb⟩; rw [← HH.out.1]; replace S := Sealed.mk (S.out.adv hb); have lx0 := S.out.cell 2 rfl; have lx1 := S.out.cell 3 rfl; clear hb)
                          | ((with_reducible refine (Height_any (S.out.cnum 3 rfl)).mono ?_); rintro e w61 ⟨rfl, hb⟩; rw [← HH.out.2]; replace S := Sealed.mk (S.out.adv hb); have lx0 := S.out.cell 2 rfl; have lx1 := S.out.cell 3 rfl; clear hb)))
                      | (go_at_call 15; go_must ((with_reducible refine (awake1_any _).mono ?_); rintro e w999 ⟨rfl, hb⟩; replace S := Sealed.mk (S.out.adv hb); clear hb)))
                    go_ret
                    exact ⟨rfl, S.out.below⟩

                obtain ⟨hvp, hhp, h99⟩ : vp = 2 ^ n ∧ height (2 ^ n) = hn' + 1 ∧ hn' ≤ 99 := by
                  rcases qp with ⟨-, h⟩ | ⟨h, -⟩
                  · exact ⟨h.1, h.2.2.1, h.2.2.2⟩
                  · omega
                have hvq : vq = 2 ^ k := by
                  rcases qq with ⟨-, h⟩ | ⟨h, -⟩
                  · exact h.1
                  · omega
                have hw1 : wl vp = 1 := by rw [hvp, wl_pow2]
                have htz : termsZ vp = [(false, (n : Int))] := by rw [hvp, termsZ_pow]
                have hc1 : sg (vp - (n : Int)) = 1 := by rw [hvp]; exact sg_pow_self n
                have hc2 : sg (vp - vq) = sg ((n : Int) - (k : Int)) := by rw [hvp, hvq]; exact sg_pow_pow n k
                have hht : ((height vp : Nat) : Int) = (hn' : Int) + 1 := by rw [hvp, hhp]; push_cast; rfl
                have HV := Sealed.mk (And.intro hvp (And.intro hvq (And.intro hw1 (And.intro htz (And.intro hc1 (And.intro hc2 hht))))))
                clear hvp hvq hw1 htz hc1 hc2 hht hhp qp qq GP GQ
                go_upto_region 11 with fail
                have ld0 := S.out.cell 1 rfl
                go_upto_region 12 with (go_at_call 41; go_must ((with_reducible refine (Terms_any (S.out.cnum 1 rfl)).mono ?_); rintro e wT ⟨aT, cT, tsT, rfl, hto, hb⟩; rw [HV.out.2.2.1] at hto ⊢; replace S := Sealed.mk (S.out.adv hb); have HT := Sealed.mk hto; clear hto hb))
                clear ld0
                obtain ⟨-, -, a', c', hv, hc, hh⟩ := HT.out.at_ (by rw [HV.out.2.2.2.1]; simp)
                obtain ⟨rfl, -, rfl⟩ := Value.slice.inj hv
                rw [HV.out.2.2.2.1] at hh hc
                obtain ⟨bT, oT, rfl, hcl⟩ := hh (by simp)
                obtain ⟨pe, hb0, hpe, hne⟩ := hcl 0 _ rfl
                simp only [Nat.zero_mul, Nat.add_zero] at hb0 hpe hne
                simp only [List.length_cons, List.length_nil, Nat.zero_add] at hc
                have hcs : ∀ W, Below wT.heap.size wT W → W.cell? ⟨bT, oT, none⟩ = some (.bool false) ∧ W.cell? ⟨bT, oT + 1, none⟩ = some (.pointer pe) := fun W hb => ⟨(cell_same (hb.block _ (lt_of_cell hb0)) _).trans hb0, (cell_same (hb.block _ (lt_of_cell hb0)) _).trans hpe⟩
                have HCS := Sealed.mk hcs
                replace S := Sealed.mk (S.out.push hne)
                have hwr : IntKind.i64.wrap ((hn' : Int) + 1) = (hn' : Int) + 1 := by rw [IntKind.wrap_i64]; omega
                obtain ⟨s1, hs1⟩ : ∃ s, s = sg ((n : Int) - (k : Int)) := ⟨_, rfl⟩
                have HS1 := Sealed.mk hs1
                clear hv hcl hb0 hpe hne hcs HT hs1
                go_cut [120] from 80 to 120 (fun v wx => v = .bool false ∧ Below wT.heap.size wT wx)
                case first =>
                  have HB := Sealed.mk (below_drew wT)
                  replace S := Sealed.mk S.out.dr
                  go_region_held3 (fun W => W.cell? ⟨bT, oT, none⟩ = some (.bool false) ∧ W.cell? ⟨bT, oT + 1, none⟩ = some (.pointer pe) ∧ W.cell? ⟨kn17, 0, none⟩ = some (.pointer pn17) ∧ W.cell? ⟨kn18, 0, none⟩ = some (.pointer pn18) ∧ W.cell? ⟨ka, 0, none⟩ = some (.pointer p13) ∧ W.cell? ⟨kb, 0, none⟩ = some (.pointer p16))
                    (exact ⟨(HCS.out _ HB.out).1, (HCS.out _ HB.out).2, S.out.cell 1 rfl, S.out.cell 0 rfl, S.out.cell 2 rfl, S.out.cell 3 rfl⟩)
                    (first
                      | (go_at_call 37; go_must (first
                          | ((with_reducible refine (Cmp_any (S.out.cnum 1 rfl) (S.out.cnum 2 rfl)).mono ?_); rintro e w30 ⟨rfl, hb⟩; rw [HV.out.2.2.2.2.1]; replace S := Sealed.mk (S.out.adv hb); replace HB := Sealed.mk (below_chain HB.out hb); clear hb)
                          | ((with_reducible refine (Cmp_any (S.out.cnum 1 rfl) (S.out.cnum 0 rfl)).mono ?_); rintro e w31 ⟨rfl, hb⟩; rw [HV.out.2.2.2.2.2.1, ← HS1.out]; replace S := Sealed.mk (S.out.adv hb); replace HB := Sealed.mk (below_chain HB.out hb); clear hb)
                          | ((with_reducible refine (Cmp_any (S.out.cnum 2 rfl) (S.out.cnum 3 rfl)).mono ?_); rintro e w32 ⟨rfl, hb⟩; rw [← HS1.out]; replace S := Sealed.mk (S.out.adv hb); replace HB := Sealed.mk (below_chain HB.out hb); clear hb)))
                      | (go_at_call 20; go_must ((with_reducible refine (lawSame_any (S.out.num 0 rfl) (S.out.cnum 2 rfl)).mono ?_); rintro e w33 ⟨rfl, hb⟩; replace S := Sealed.mk (S.out.adv hb); replace HB := Sealed.mk (below_chain HB.out hb); clear hb))
                      | (go_at_call 43; go_must (first
                          | ((with_reducible refine (Height_any (S.out.cnum 1 rfl)).mono ?_); rintro e w34 ⟨rfl, hb⟩; rw [HV.out.2.2.2.2.2.2]; replace S := Sealed.mk (S.out.adv hb); replace HB := Sealed.mk (below_chain HB.out hb); clear hb)
                          | ((with_reducible refine (Height_any (S.out.cnum 2 rfl)).mono ?_); rintro e w35 ⟨rfl, hb⟩; rw [← HH.out.1]; replace S := Sealed.mk (S.out.adv hb); replace HB := Sealed.mk (below_chain HB.out hb); clear hb))))
                  all_goals
                    go_wp2_with fail
                    go_meet
                    case rel => exact ⟨by first | rfl | simp, HB.out⟩
                case rest =>
                  obtain ⟨rfl, hbc⟩ := hcut
                  obtain ⟨W30, hW30⟩ : ∃ W30, W30 = wc := ⟨_, rfl⟩
                  rw [← hW30] at hbc ⊢
                  clear hW30 HCS HS1
                  replace S := Sealed.mk (S.out.adv hbc).clr
                  clear hbc
                  go_upto_region 14 with fail
                  obtain ⟨vnx, en, gn, qn⟩ := gv_two ((n : Int) + 1)
                  obtain ⟨vd, ed, gd, qd⟩ := gv_two (vp + vp)
                  have GN := Sealed.mk gn
                  have GD := Sealed.mk gd
                  have QN := Sealed.mk (And.intro qn qd)
                  obtain ⟨b1, hb1⟩ : ∃ b : Bool, b = decide (en = 0 ∧ ed = 0) := ⟨_, rfl⟩
                  have B1 := Sealed.mk hb1
                  clear gn gd qn qd hb1
                  go_cut [15, 16] from 121 to 126 (fun vn ve wx => ∃ kn pn, vn = .pointer (some ⟨kn, 0, none⟩) ∧ ve = .int .i64 en ∧ St w wx [] [(kn, pn, vnx), (kn18, pn18, vq), (kn17, pn17, vp), (ka, p13, (n : Int)), (kb, p16, (k : Int))])
                  case first =>
                    go_region_held3 (fun W => W.cell? ⟨ka, 0, none⟩ = some (.pointer p13))
                      (first
                        | exact S.out.cell 2 rfl
                        | exact S.out.dr.cell 2 rfl
                        | exact S.out.cell 3 rfl
                        | exact (S.out.new (NumIs.zero _)).dr.cell 3 rfl
                        | exact (S.out.new (NumIs.zero _)).cell 3 rfl
                        | exact (S.out.put 0 rfl (S.out.num 0 rfl)).cell 3 rfl
                        | exact (S.out.new (S.out.num 0 rfl)).cell 3 rfl
                        | fail)
                      (first
                        | (go_at_call 21; go_must ((with_reducible refine (OF.out _).mono ?_); rintro e w41 ⟨p41, rfl, hb, hn⟩; first | (replace S := Sealed.mk (S.out.dr.res hb hn)) | (replace S := Sealed.mk ((S.out.new (NumIs.zero _)).dr.res hb hn)); clear hb hn))
                        | (go_at_call 32; go_must (first
                            | ((with_reducible refine (Add_two GN.out (S.out.cnum 2 rfl) (S.out.num 0 rfl)).mono ?_); rintro e w41' ⟨p41', rfl, hb, hn⟩; replace S := Sealed.mk (S.out.res hb hn); clear hb hn)
                            | ((with_reducible refine (Add_two GN.out (S.out.cnum 3 rfl) (S.out.num 0 rfl)).mono ?_); rintro e w41' ⟨p41', rfl, hb, hn⟩; replace S := Sealed.mk (S.out.res hb hn); have zc := S.out.cell 0 rfl; have zf := S.out.frozen 0 rfl; clear hb hn)
                            | ((with_reducible refine (Add_two GN.out ((S.out.new (NumIs.zero _)).cnum 3 rfl) ((S.out.new (NumIs.zero _)).num 0 rfl)).mono ?_); rintro e w41' ⟨p41', rfl, hb, hn⟩; replace S := Sealed.mk ((S.out.new (NumIs.zero _)).res hb hn); have zc := S.out.cell 0 rfl; have zf := S.out.frozen 0 rfl; clear hb hn))))
                    all_goals
                      go_wp2_with fail
                      go_meet
                      case rel =>
                        first
                          | exact ⟨_, _, rfl, rfl, (S.out.new (S.out.num 0 rfl)).clr⟩
                          | exact ⟨_, _, rfl, rfl, (S.out.put 0 rfl (S.out.num 0 rfl)).clr⟩
                  case rest =>
                    obtain ⟨kn41, pn41, rfl, rfl, hS⟩ := hcut
                    obtain ⟨W41, hW41⟩ : ∃ W41, W41 = wc := ⟨_, rfl⟩
                    rw [← hW41] at hS ⊢
                    clear hW41
                    replace S := Sealed.mk hS
                    clear hS
                    go_upto_region 15 with fail
                    have ld0 := S.out.cell 2 rfl
                    go_upto_region 16 with (go_at_call 32; go_must ((with_reducible refine (Add_two GD.out (S.out.cnum 2 rfl) (S.out.cnum 2 rfl)).mono ?_); rintro e w42 ⟨p42, rfl, hb, hn⟩; replace S := Sealed.mk (S.out.res hb hn); clear hb hn))
                    clear ld0
                    have S0 := (S.out.new (S.out.num 0 rfl)).clr
                    obtain ⟨W43, hW43⟩ : ∃ W43, W43 = w42.alloc (.cells #[.pointer p42] 30) := ⟨_, rfl⟩
                    rw [← hW43] at S0 ⊢
                    replace S := Sealed.mk S0; clear S0 hW43
                    go_cut [138] from 133 to 138 (fun v wx => v = .bool b1 ∧ W43 = wx)
                    case first =>
                      obtain ⟨qn, qd⟩ := QN.out
                      have hb1 := B1.out
                      clear B1 QN GN GD
                      rcases qn with ⟨rfl, -⟩ | ⟨rfl, -⟩ <;> rcases qd with ⟨rfl, -⟩ | ⟨rfl, -⟩
                      all_goals
                        have hb1' := Sealed.mk hb1; clear hb1
                        go_wp2_with fail
                        go_meet
                        case rel => exact ⟨by rw [hb1'.out]; rfl, rfl⟩
                    case rest =>
                      obtain ⟨rfl, rfl⟩ := hcut
                      go_upto_if 138 with fail
                      go_cut [138] from 139 to 152 (fun _ wx => St w wx [] [(w42.heap.size, p42, vd), (kn41, pn41, vnx), (kn18, pn18, vq), (kn17, pn17, vp), (ka, p13, (n : Int)), (kb, p16, (k : Int))])
                      case first =>
                        cases b1 with
                        | false =>
                          go_wp2_with fail
                          go_meet
                          case rel => exact S.out
                        | true =>
                          obtain ⟨h1, h2⟩ : en = 0 ∧ ed = 0 := of_decide_eq_true B1.out.symm
                          obtain ⟨qn, qd⟩ := QN.out
                          have hvn : vnx = ((n + 1 : Nat) : Int) := by
                            rcases qn with ⟨-, h⟩ | ⟨h, -⟩
                            · rw [h]; push_cast; rfl
                            · omega
                          have hvd : vd = 2 ^ (n + 1) := by
                            rcases qd with ⟨-, h⟩ | ⟨h, -⟩
                            · rw [h, HV.out.1, pow_succ']; omega
                            · omega
                          have GR : Sealed (shiftR 1 vnx = (vd, 0)) := ⟨by
                            have hg := GD.out
                            rw [HV.out.1, show (2 ^ n + 2 ^ n : Int) = 2 ^ (n + 1) by rw [pow_succ']; omega, h2] at hg
                            rw [hvn, shiftR_nat, Int.mul_one]
                            exact hg⟩
                          clear h1 h2 qn qd hvn hvd
                          go_upto_region 17 with fail
                          go_cut [19, 20] from 139 to 144 (fun vn ve wx => ∃ kn pn, vn = .pointer (some ⟨kn, 0, none⟩) ∧ ve = .int .i64 0 ∧ St w wx [] [(kn, pn, vd), (w42.heap.size, p42, vd), (kn41, pn41, vnx), (kn18, pn18, vq), (kn17, pn17, vp), (ka, p13, (n : Int)), (kb, p16, (k : Int))])
                          case first =>
                            go_region_held3 (fun W => W.cell? ⟨kn41, 0, none⟩ = some (.pointer pn41))
                              (first
                                | exact S.out.cell 1 rfl
                                | exact S.out.dr.cell 1 rfl
                                | exact S.out.cell 2 rfl
                                | exact (S.out.new (NumIs.zero _)).dr.cell 2 rfl
                                | exact (S.out.new (NumIs.zero _)).cell 2 rfl
                                | exact (S.out.put 0 rfl (S.out.num 0 rfl)).cell 2 rfl
                                | exact (S.out.new (S.out.num 0 rfl)).cell 2 rfl
                                | fail)
                              (first
                                | (go_at_call 21; go_must ((with_reducible refine (OF.out _).mono ?_); rintro e w44 ⟨p44, rfl, hb, hn⟩; first | (replace S := Sealed.mk (S.out.dr.res hb hn)) | (replace S := Sealed.mk ((S.out.new (NumIs.zero _)).dr.res hb hn)); clear hb hn))
                                | (go_at_call 25; go_must (first
                                    | ((with_reducible refine (Shift_two GR.out (S.out.num 0 rfl) (S.out.cnum 1 rfl)).mono ?_); rintro e w44' ⟨p44', rfl, hb, hn⟩; replace S := Sealed.mk (S.out.res hb hn); clear hb hn)
                                    | ((with_reducible refine (Shift_two GR.out (S.out.num 0 rfl) (S.out.cnum 2 rfl)).mono ?_); rintro e w44' ⟨p44', rfl, hb, hn⟩; replace S := Sealed.mk (S.out.res hb hn); have zc := S.out.cell 0 rfl; have zf := S.out.frozen 0 rfl; clear hb hn)
                                    | ((with_reducible refine (Shift_two GR.out ((S.out.new (NumIs.zero _)).num 0 rfl) ((S.out.new (NumIs.zero _)).cnum 2 rfl)).mono ?_); rintro e w44' ⟨p44', rfl, hb, hn⟩; replace S := Sealed.mk ((S.out.new (NumIs.zero _)).res hb hn); have zc := S.out.cell 0 rfl; have zf := S.out.frozen 0 rfl; clear hb hn))))
                            all_goals
                              go_wp2_with fail
                              go_meet
                              case rel =>
                                first
                                  | exact ⟨_, _, rfl, rfl, (S.out.new (S.out.num 0 rfl)).clr⟩
                                  | exact ⟨_, _, rfl, rfl, (S.out.put 0 rfl (S.out.num 0 rfl)).clr⟩
                          case rest =>
                            obtain ⟨kn44, pn44, rfl, rfl, hS⟩ := hcut
                            obtain ⟨W44, hW44⟩ : ∃ W44, W44 = wc := ⟨_, rfl⟩
                            rw [← hW44] at hS ⊢
                            clear hW44
                            replace S := Sealed.mk hS
                            clear hS
                            go_upto_region 18 with fail
                            have ld0 := S.out.cell 0 rfl
                            have ld1 := S.out.cell 1 rfl
                            go_wp2_with (go_at_call 20; go_must (first
                              | ((with_reducible refine (lawSame_any (S.out.cnum 0 rfl) (S.out.cnum 1 rfl)).mono ?_); rintro e w450 ⟨rfl, hb⟩; replace S := Sealed.mk (S.out.adv hb); clear hb; have lx0 := S.out.cell 0 rfl; have lx1 := S.out.cell 1 rfl)))
                            go_meet
                            case rel => exact S.out.drop 1
                      case rest =>
                        obtain ⟨W46, hW46⟩ : ∃ W46, W46 = wc := ⟨_, rfl⟩
                        rw [← hW46] at hcut ⊢
                        clear hW46 S
                        have S := Sealed.mk hcut; clear hcut
                        go_upto_region 20 with fail
                        obtain ⟨vs, es, gs, qs⟩ := gv_two (vp + vq)
                        have GS := Sealed.mk gs
                        have QS := Sealed.mk qs
                        have hm1 : sg (vp + vq - vp) = 1 ∧ sg (vp + vq - vq) = 1 := by rw [HV.out.1, HV.out.2.1]; exact sg_pow_more n k
                        have HM1 := Sealed.mk hm1
                        clear gs qs hm1
                        have ld0 := S.out.cell 3 rfl
                        have ld1 := S.out.cell 2 rfl
                        go_upto_region 21 with (go_at_call 32; go_must ((with_reducible refine (Add_two GS.out (S.out.cnum 3 rfl) (S.out.cnum 2 rfl)).mono ?_); rintro e w47 ⟨p47, rfl, hb, hn⟩; replace S := Sealed.mk (S.out.res hb hn); clear hb hn))
                        clear ld0 ld1
                        have S0 := (S.out.new (S.out.num 0 rfl)).clr
                        obtain ⟨W48, hW48⟩ : ∃ W48, W48 = w47.alloc (.cells #[.pointer p47] 30) := ⟨_, rfl⟩
                        rw [← hW48] at S0 ⊢
                        replace S := Sealed.mk S0; clear S0 hW48
                        have qs := QS.out
                        clear QS GS
                        rcases qs with ⟨rfl, rfl⟩ | ⟨rfl, rfl⟩
                        · have ld0 := S.out.cell 0 rfl
                          have ld1 := S.out.cell 4 rfl
                          have ld2 := S.out.cell 3 rfl
                          go_wp2_with (first
                            | (go_at_call 37; go_must (first
                                | ((with_reducible refine (Cmp_any (S.out.cnum 0 rfl) (S.out.cnum 4 rfl)).mono ?_); rintro e w90 ⟨rfl, hb⟩; rw [HM1.out.1]; replace S := Sealed.mk (S.out.adv hb); have lx0 := S.out.cell 0 rfl; have lx1 := S.out.cell 4 rfl; have lx2 := S.out.cell 3 rfl; clear hb)
                                | ((with_reducible refine (Cmp_any (S.out.cnum 0 rfl) (S.out.cnum 3 rfl)).mono ?_); rintro e w91 ⟨rfl, hb⟩; rw [HM1.out.2]; replace S := Sealed.mk (S.out.adv hb); have lx0 := S.out.cell 0 rfl; have lx1 := S.out.cell 4 rfl; have lx2 := S.out.cell 3 rfl; clear hb)))
                            | (go_at_call 15; go_must ((with_reducible refine (awake1_any _).mono ?_); rintro e w999 ⟨rfl, hb⟩; replace S := Sealed.mk (S.out.adv hb); clear hb)))
                          go_ret
                          exact ⟨rfl, S.out.below⟩
                        · skip
                          go_wp2_with (go_at_call 15; go_must ((with_reducible refine (awake1_any _).mono ?_); rintro e w999 ⟨rfl, hb⟩; replace S := Sealed.mk (S.out.adv hb); clear hb))
                          go_ret
                          exact ⟨rfl, S.out.below⟩

end Go.Proofs.Ytgchfbfgjanaiaa
