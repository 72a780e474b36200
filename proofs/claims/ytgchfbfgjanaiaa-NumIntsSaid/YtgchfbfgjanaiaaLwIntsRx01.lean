/-
  plain facts for the laws of law01
  what a law's walk holds: the numbers that are known, the cells of the variables
  sandreckonerlaw01.NumInts: the walk
-/
import Derived.Test.YtgchfbfgjanaiaaJ34
import Derived.Test.YtgchfbfgjanaiaaJ35
import Derived.Deep.DeepCutAuto
import Derived.Deep.CutRange
set_option linter.unusedSimpArgs false
set_option linter.unusedVariables false
namespace Go.Proofs.Ytgchfbfgjanaiaa
open Go.RowKit Sr

theorem part_le {x : Int} {n : Nat} (h : ∀ e ∈ exps x, e ≤ n) {e : Nat} (hp : Part e x) : e ≤ n := by
  rcases part_iff.1 hp with ⟨f, hf, rfl | hp⟩
  · exact h _ hf
  · have := hp.lt; have := h f hf; simp at *; omega

theorem plist_le {x : Int} {n : Nat} (h : ∀ e ∈ exps x, e ≤ n) : (plist x).length ≤ n + 1 := by
  have := nodup_sub_nat (a := plist x) (b := List.range (n + 1)) (plist_nodup x) fun e he => by
    have := part_le h (mem_plist.1 he)
    rw [List.mem_range]; omega
  simpa using this

theorem allowed_le {x : Int} {n : Nat} (hn : n ≤ 90) (h : ∀ e ∈ exps x, e ≤ n) : Allowed x := by
  have h1 := plist_le h
  refine ⟨?_, fun e he => ?_, ?_, ?_⟩
  · have := form_length_le (x := x) (n := n + 1) fun e he => by have := h e he; omega
    omega
  · have := form_length_nat e
    have := part_le h he
    omega
  · unfold weight; omega
  · have := height_plist _ (Nat.lt_succ_self x.natAbs)
    omega

theorem allowed_abs {x : Int} (h : x.natAbs ≤ 2 ^ 66) : Allowed x := by
  refine allowed_le (n := 67) (by decide) fun e he => ?_
  have h1 := exps_pow he
  by_cases h2 : e ≤ 67
  · exact h2
  · have h3 := pow_mono (show 69 ≤ e + 1 by omega)
    have h4 : ((2 : Int) ^ 69) = 590295810358705651712 := by decide
    have h5 : (2 : Nat) ^ 66 = 73786976294838206464 := by decide
    omega

theorem gv_ok {z : Int} (h : Allowed z) : gv z = (z, 0) := by unfold gv; rw [if_pos h]
theorem gv_no {z : Int} (h : ¬ Allowed z) : gv z = (0, 5) := by unfold gv; rw [if_neg h]
theorem gv_err {z : Int} : (gv z).2 = 0 ↔ Allowed z := by
  by_cases h : Allowed z
  · rw [gv_ok h]; simp [h]
  · rw [gv_no h]; simp [h]

theorem sg_flip (z : Int) : sg (-z) = -sg z := by unfold sg; split <;> split <;> (try split) <;> omega
theorem sg_swap (x y : Int) : sg (y - x) = -sg (x - y) := by rw [← sg_flip]; congr 1; omega
theorem sg_neg3 (x y : Int) : sg (-x - -y) = -sg (x - y) := by rw [← sg_flip]; congr 1; omega
theorem sg_cases (z : Int) : (z < 0 ∧ sg z = -1) ∨ (z = 0 ∧ sg z = 0) ∨ (0 < z ∧ sg z = 1) := by unfold sg; split <;> (try split) <;> omega

theorem is64_iff {z : Int} : Is64 z ↔ -9223372036854775808 ≤ z ∧ z ≤ 9223372036854775807 := Iff.rfl

end Go.Proofs.Ytgchfbfgjanaiaa

namespace Go.Proofs.Ytgchfbfgjanaiaa
open Go.RowKit Sr

abbrev NumL := List (Option Addr × Int)
abbrev CellL := List (Nat × Option Addr × Int)

/-- THE STATE of a law's walk in the world W, that began in w0: numbers by their pointers; cells that hold numbers -/
structure St (w0 W : World) (nums : NumL) (cells : CellL) : Prop where
  below : Below w0.heap.size w0 W
  nums_ : ∀ (i : Nat) (p : Option Addr) (x : Int), nums[i]? = some (p, x) → NumIs W (.agg #[.pointer p]) x
  cells_ : ∀ (i : Nat) (k : Nat) (p : Option Addr) (x : Int), cells[i]? = some (k, p, x) → NC W k p x ∧ w0.heap.size ≤ k
  apart : (cells.map (·.1)).Nodup

variable {w0 W W' : World} {nums : NumL} {cells : CellL}

theorem St.start (w0 : World) : St w0 w0 [] [] := ⟨Below.refl _ _, fun i p x h => by simp at h, fun i k p x h => by simp at h, by simp⟩
theorem St.num (h : St w0 W nums cells) (i : Nat) {p : Option Addr} {x : Int} (hi : nums[i]? = some (p, x)) : NumIs W (.agg #[.pointer p]) x := h.nums_ i p x hi
theorem St.cnum (h : St w0 W nums cells) (i : Nat) {k : Nat} {p : Option Addr} {x : Int} (hi : cells[i]? = some (k, p, x)) : NumIs W (.agg #[.pointer p]) x := (h.cells_ i k p x hi).1.2
theorem St.cell (h : St w0 W nums cells) (i : Nat) {k : Nat} {p : Option Addr} {x : Int} (hi : cells[i]? = some (k, p, x)) : W.cell? ⟨k, 0, none⟩ = some (.pointer p) := (h.cells_ i k p x hi).1.cell
theorem St.blk (h : St w0 W nums cells) (i : Nat) {k : Nat} {p : Option Addr} {x : Int} (hi : cells[i]? = some (k, p, x)) : W.heap[k]? = some (.cells #[.pointer p] 30 (0, 0)) := (h.cells_ i k p x hi).1.1
theorem St.frozen (h : St w0 W nums cells) (i : Nat) {k : Nat} {p : Option Addr} {x : Int} (hi : cells[i]? = some (k, p, x)) : W.frozen? ⟨k, 0, none⟩ = false := frozen_of_blk (h.blk i hi) 0
theorem St.adv (h : St w0 W nums cells) (hb : Below W.heap.size W W') : St w0 W' nums cells :=
  ⟨below_chain h.below hb, fun i p x hi => (h.nums_ i p x hi).below hb, fun i k p x hi => ⟨(h.cells_ i k p x hi).1.below hb, (h.cells_ i k p x hi).2⟩, h.apart⟩
theorem St.na (h : St w0 W nums cells) {o : Obj} : St w0 (W.alloc o) nums cells := h.adv (below_new _ _)
theorem St.dr (h : St w0 W nums cells) : St w0 W.drew nums cells := h.adv (below_drew _)
theorem St.push (h : St w0 W nums cells) {p : Option Addr} {x : Int} (hn : NumIs W (.agg #[.pointer p]) x) : St w0 W ((p, x) :: nums) cells :=
  ⟨h.below, fun i q y hi => by
    cases i with
    | zero => simp at hi; obtain ⟨rfl, rfl⟩ := hi; exact hn
    | succ i => exact h.nums_ i q y (by simpa using hi), h.cells_, h.apart⟩
/-- a call that answers a number -/
theorem St.res (h : St w0 W nums cells) {p : Option Addr} {x : Int} (hb : Below W.heap.size W W') (hn : NumIs W' (.agg #[.pointer p]) x) : St w0 W' ((p, x) :: nums) cells := (h.adv hb).push hn
theorem St.clr (h : St w0 W nums cells) : St w0 W [] cells := ⟨h.below, fun i p x h => by simp at h, h.cells_, h.apart⟩

theorem St.lt (h : St w0 W nums cells) : ∀ k ∈ cells.map (·.1), k < W.heap.size := fun k hk => by
  obtain ⟨⟨k', p, x⟩, ht, rfl⟩ := List.mem_map.1 hk
  obtain ⟨i, hi⟩ := List.getElem?_of_mem ht
  exact lt_of_blk (h.cells_ i k' p x hi).1.1

/-- a cell that has been made -/
theorem St.cel (h : St w0 W nums cells) {k : Nat} {p : Option Addr} {x : Int} (hc : NC W k p x) (hk : w0.heap.size ≤ k) (ha : ∀ j ∈ cells.map (·.1), j ≠ k) : St w0 W nums ((k, p, x) :: cells) :=
  ⟨h.below, h.nums_, fun i k' q y hi => by
    cases i with
    | zero => simp at hi; obtain ⟨rfl, rfl, rfl⟩ := hi; exact ⟨hc, hk⟩
    | succ i => exact h.cells_ i k' q y (by simpa using hi), by
    rw [List.map_cons, List.nodup_cons]
    exact ⟨fun hm => ha _ hm rfl, h.apart⟩⟩
/-- a new cell -/
theorem St.new (h : St w0 W nums cells) {p : Option Addr} {x : Int} (hn : NumIs W (.agg #[.pointer p]) x) : St w0 (W.alloc (.cells #[.pointer p] 30)) nums ((W.heap.size, p, x) :: cells) :=
  h.na.cel (NC.make hn) h.below.size fun j hj e => by have := h.lt j hj; omega
theorem St.new2 (h : St w0 W nums cells) {p q : Option Addr} {x y : Int} (hx : NumIs W (.agg #[.pointer p]) x) (hy : NumIs W (.agg #[.pointer q]) y) :
    St w0 ((W.alloc (.cells #[.pointer p] 30)).alloc (.cells #[.pointer q] 30)) nums ((W.heap.size + 1, q, y) :: (W.heap.size, p, x) :: cells) := by
  have := (h.new hx).new (hy.below (below_new _ _))
  simpa only [World.size_alloc] using this
theorem St.new3 (h : St w0 W nums cells) {p q r : Option Addr} {x y z : Int} (hx : NumIs W (.agg #[.pointer p]) x) (hy : NumIs W (.agg #[.pointer q]) y) (hz : NumIs W (.agg #[.pointer r]) z) :
    St w0 (((W.alloc (.cells #[.pointer p] 30)).alloc (.cells #[.pointer q] 30)).alloc (.cells #[.pointer r] 30)) nums ((W.heap.size + 1 + 1, r, z) :: (W.heap.size + 1, q, y) :: (W.heap.size, p, x) :: cells) := by
  have := (h.new2 hx hy).new (hz.below (below_chain (below_new _ _) (below_new _ _)))
  simpa only [World.size_alloc] using this
/-- other cells, all of them known -/
theorem St.sub {cells' : CellL} (h : St w0 W nums cells) (hs : ∀ t ∈ cells', t ∈ cells) (hn : (cells'.map (·.1)).Nodup) : St w0 W nums cells' :=
  ⟨h.below, h.nums_, fun i k p x hi => by
    obtain ⟨j, hj⟩ := List.getElem?_of_mem (hs _ (List.mem_of_getElem? hi))
    exact h.cells_ j k p x hj, hn⟩
/-- a cell is written -/
theorem St.put (h : St w0 W nums cells) (i : Nat) {k : Nat} {p q : Option Addr} {x z : Int} (hi : cells[i]? = some (k, p, x)) (hn : NumIs W (.agg #[.pointer q]) z) : St w0 (W.setCell ⟨k, 0, none⟩ (.pointer q)) nums (cells.set i (k, q, z)) := by
  have hz := h.blk i hi
  have hx : Ext (fun j => j = k) W (W.setCell ⟨k, 0, none⟩ (.pointer q)) := (Ext.refl (fun j => j = k) W).setCell (p := ⟨k, 0, none⟩) (.inl rfl) _
  have hlen : i < cells.length := (List.getElem?_eq_some_iff.1 hi).1
  refine ⟨h.below.setCell (h.cells_ i k p x hi).2 _, fun i r x hi => (h.nums_ i r x hi).other hz hx, fun j k' r y hj => ?_, ?_⟩
  · by_cases e : i = j
    · subst e
      rw [List.getElem?_set_self hlen] at hj
      obtain ⟨rfl, rfl, rfl⟩ := by simpa using hj
      exact ⟨⟨by rw [blk_setCell hz]; rfl, hn.other hz hx⟩, (h.cells_ i k p x hi).2⟩
    · rw [List.getElem?_set_ne e] at hj
      obtain ⟨⟨a1, a2⟩, a3⟩ := h.cells_ j k' r y hj
      refine ⟨⟨hx.get a1 fun ek => ?_, a2.other hz hx⟩, a3⟩
      have ek' : k' = k := ek
      have hn' := List.pairwise_iff_getElem.1 h.apart
      have hj' : j < cells.length := (List.getElem?_eq_some_iff.1 hj).1
      have e1 : (cells.map (·.1))[i]'(by simpa using hlen) = k := by
        rw [List.getElem_map, (List.getElem?_eq_some_iff.1 hi).2]
      have e2 : (cells.map (·.1))[j]'(by simpa using hj') = k := by
        rw [List.getElem_map, (List.getElem?_eq_some_iff.1 hj).2]; exact ek'
      rcases Nat.lt_or_gt_of_ne e with hlt | hlt
      · exact hn' i j (by simpa using hlen) (by simpa using hj') hlt (e1.trans e2.symm)
      · exact hn' j i (by simpa using hj') (by simpa using hlen) hlt (e2.trans e1.symm)
  · have : (cells.set i (k, q, z)).map (·.1) = cells.map (·.1) := by
      rw [List.map_set]
      apply List.ext_getElem? 
      intro j
      by_cases e : i = j
      · subst e
        rw [List.getElem?_set_self (by simpa using hlen), List.getElem?_map, hi]; rfl
      · rw [List.getElem?_set_ne e]
    rw [this]; exact h.apart

end Go.Proofs.Ytgchfbfgjanaiaa

namespace Go.Proofs.Ytgchfbfgjanaiaa
open Go.RowKit Sr

theorem toI64_ok {x : Int} (h : Is64 x) : toI64 x = .tuple #[.int .i64 x, .bool true] := by unfold toI64; rw [if_pos h]; simp [h]
theorem toI64_no {x : Int} (h : ¬ Is64 x) : toI64 x = .tuple #[.int .i64 0, .bool false] := by unfold toI64; rw [if_neg h]; simp [h]

theorem shr33 {a : Int} (h : Is64 a) : (a / 8589934592).natAbs ≤ 2 ^ 30 := by
  unfold Is64 at h
  have h2 : (2 : Nat) ^ 30 = 1073741824 := by decide
  rw [h2]
  omega

theorem is64_33 {a : Int} (h : Is64 a) : Is64 (a / 8589934592) := by
  unfold Is64 at *
  omega

theorem mul_abs {x y : Int} (hx : x.natAbs ≤ 2 ^ 30) (hy : y.natAbs ≤ 2 ^ 30) : (x * y).natAbs ≤ 2 ^ 60 := by
  rw [Int.natAbs_mul]
  exact Nat.le_trans (Nat.mul_le_mul hx hy) (by decide)

theorem wl_abs {x : Int} (h : x.natAbs ≤ 2 ^ 63) : wl x ≤ 64 := form_length_le (n := 64) fun e he => by have := exps_small h he; omega

theorem mulR_small {x y : Int} (hx : x.natAbs ≤ 2 ^ 30) (hy : y.natAbs ≤ 2 ^ 30) : mulR x y = (x * y, 0) := by
  have h0 := mul_abs hx hy
  have h1 := wl_abs (Nat.le_trans hx (by decide : 2 ^ 30 ≤ 2 ^ 63))
  have h2 := wl_abs (Nat.le_trans hy (by decide : 2 ^ 30 ≤ 2 ^ 63))
  unfold mulR
  rw [if_pos (Nat.le_trans (Nat.mul_le_mul h1 h2) (by decide)), gv_ok (allowed_abs (Nat.le_trans h0 (by decide)))]

theorem over_iff {a b : Int} (ha : Is64 a) (hb : Is64 b) : (!decide (Is64 (a + b))) = ((decide (0 < a) && decide (0 < b) && decide (wrap64 (a + b) < 0)) || (decide (a < 0) && decide (b < 0) && decide (0 ≤ wrap64 (a + b)))) := by
  rw [Bool.eq_iff_iff]
  simp only [Bool.not_eq_true', decide_eq_false_iff_not, Bool.or_eq_true, Bool.and_eq_true, decide_eq_true_eq]
  unfold Is64 wrap64 at *
  constructor
  · intro h; omega
  · intro h; omega
theorem under_iff {a b : Int} (ha : Is64 a) (hb : Is64 b) : (!decide (Is64 (a - b))) = ((decide (0 ≤ a) && decide (b < 0) && decide (wrap64 (a - b) < 0)) || (decide (a < 0) && decide (0 < b) && decide (0 ≤ wrap64 (a - b)))) := by
  rw [Bool.eq_iff_iff]
  simp only [Bool.not_eq_true', decide_eq_false_iff_not, Bool.or_eq_true, Bool.and_eq_true, decide_eq_true_eq]
  unfold Is64 wrap64 at *
  constructor
  · intro h; omega
  · intro h; omega
set_option maxRecDepth 100000 in
set_option maxHeartbeats 2000000 in
theorem lawInts_any {a b : Int} (ha : Is64 a) (hb : Is64 b) (w : World) : Calls Try.prog 13 #[.int .i64 a, .int .i64 b] w fun e w' => e = .returned (.bool true) ∧ Below w.heap.size w w' := by
  have hof := fun W => Of_one ha W
  have hof2 := fun W => Of_one hb W
  have hof3 := fun W => Of_one (is64_33 ha) W
  have hof4 := fun W => Of_one (is64_33 hb) W
  have hia := toI64_ok ha
  have h264 : (2 : Nat) ^ 66 = 73786976294838206464 := by decide
  have hs : gv (a + b) = (a + b, 0) := gv_ok (allowed_abs (by unfold Is64 at ha hb; omega))
  have hd : gv (a - b) = (a - b, 0) := gv_ok (allowed_abs (by unfold Is64 at ha hb; omega))
  have hm : mulR (a / 8589934592) (b / 8589934592) = (a / 8589934592 * (b / 8589934592), 0) := mulR_small (shr33 ha) (shr33 hb)
  have hpi := mul_abs (shr33 ha) (shr33 hb)
  have hpi2 : Is64 (a / 8589934592 * (b / 8589934592)) := by
    have h2 : (2 : Nat) ^ 60 = 1152921504606846976 := by decide
    unfold Is64; omega
  have him := toI64_ok hpi2
  have HF := Sealed.mk (And.intro hof (And.intro hof2 (And.intro hof3 hof4))); clear hof hof2 hof3 hof4
  have HV := Sealed.mk (And.intro hia (And.intro hs (And.intro hd (And.intro hm (And.intro him (And.intro hpi2 (And.intro ha hb))))))); clear hia hs hd hm him hpi hpi2 ha hb h264
  obtain ⟨va, hva⟩ : ∃ v, v = if Is64 (a + b) then a + b else 0 := ⟨_, rfl⟩
  obtain ⟨ia, hia⟩ : ∃ v, v = decide (Is64 (a + b)) := ⟨_, rfl⟩
  obtain ⟨vd, hvd⟩ : ∃ v, v = if Is64 (a - b) then a - b else 0 := ⟨_, rfl⟩
  obtain ⟨id, hid⟩ : ∃ v, v = decide (Is64 (a - b)) := ⟨_, rfl⟩
  have hta : toI64 (a + b) = .tuple #[.int .i64 va, .bool ia] := by unfold toI64; rw [hva, hia]
  have htd : toI64 (a - b) = .tuple #[.int .i64 vd, .bool id] := by unfold toI64; rw [hvd, hid]
  have HI := Sealed.mk (And.intro hta (And.intro htd (And.intro hva (And.intro hia (And.intro hvd hid))))); clear hta htd hva hia hvd hid
  go_enter Try.func13, Try.ntmps13
  go_upto_region 2 with (go_at_call 21; go_must (first
    | ((with_reducible refine (HF.out.1 _).mono ?_); rintro e w1 ⟨p1, rfl, hb1, hn1⟩; have S1 := Sealed.mk ((St.start w).res hb1 hn1); clear hb1 hn1)
    | ((with_reducible refine (HF.out.2.1 _).mono ?_); rintro e w2 ⟨p2, rfl, hb1, hn1⟩; have S2 := Sealed.mk (S1.out.res hb1 hn1); clear hb1 hn1)))
  obtain ⟨W2, hW2⟩ : ∃ W2, W2 = (w2.alloc (.cells #[.pointer p1] 30)).alloc (.cells #[.pointer p2] 30) := ⟨_, rfl⟩
  have S0 := (S2.out.new (S2.out.num 1 rfl)).new (S2.out.na.num 0 rfl)
  simp only [World.size_alloc] at S0
  rw [← hW2] at S0 ⊢
  have cx := S0.cell 1 rfl
  have S := Sealed.mk S0; clear S0 S1 S2 hW2
  go_upto_region 3 with (go_at_call 47; go_must ((with_reducible refine (Int_any (S.out.cnum 1 rfl)).mono ?_); rintro e w3 ⟨rfl, hb3⟩; rw [HV.out.1]; replace S := Sealed.mk (S.out.adv hb3); clear hb3))
  clear cx
  go_cut [55] from 33 to 55 (fun v wx => v = .bool false ∧ Below w3.heap.size w3 wx)
  case first =>
    have cx := S.out.cell 1 rfl
    have HB : Sealed (Below w3.heap.size w3 w3) := ⟨Below.refl _ _⟩
    rcases sg_cases a with ⟨h, hs⟩ | ⟨h, hs⟩ | ⟨h, hs⟩
    all_goals
      have HS := Sealed.mk hs
      first | (have h1 : 0 < a := h) | (have h1 : ¬ 0 < a := by omega)
      first | (have h2 : a < 0 := h) | (have h2 : ¬ a < 0 := by omega)
      clear h hs
      go_wp2_with (go_at_call 42; go_must ((with_reducible refine (Sign_any (S.out.cnum 1 rfl)).mono ?_); rintro e w4 ⟨rfl, hb4⟩; rw [HS.out]; replace S := Sealed.mk (S.out.adv hb4); replace HB := Sealed.mk (below_chain HB.out hb4); have cx4 := S.out.cell 1 rfl; clear hb4))
      go_meet
      case rel => exact ⟨by first | rfl | (congr 1; simp [h1, h2]), HB.out⟩
  case rest =>
    obtain ⟨rfl, hbc⟩ := hcut
    obtain ⟨W4, hW4⟩ : ∃ W4, W4 = wc := ⟨_, rfl⟩
    rw [← hW4] at hbc ⊢
    clear hW4
    replace S := Sealed.mk (S.out.adv hbc)
    clear hbc
    go_upto_if 58 with fail
    go_cut [9] from 59 to 61 (fun v wx => v = .int .i64 (sg (a - b)) ∧ W4 = wx)
    case first =>
      go_wp2_with fail
      all_goals
        go_meet
        case rel =>
          refine ⟨?_, rfl⟩
          congr 1
          unfold sg
          split <;> (try split) <;> omega
    case rest =>
      obtain ⟨rfl, rfl⟩ := hcut
      have cx := S.out.cell 1 rfl
      have cy := S.out.cell 0 rfl
      go_upto_region 11 with (go_at_call 32; go_must ((with_reducible refine (Add_two HV.out.2.1 (S.out.cnum 1 rfl) (S.out.cnum 0 rfl)).mono ?_); rintro e w5 ⟨p3, rfl, hb, hn⟩; replace S := Sealed.mk (S.out.res hb hn); clear hb hn))
      have S0 := S.out.new (S.out.num 0 rfl)
      obtain ⟨W5, hW5⟩ : ∃ W5, W5 = w5.alloc (.cells #[.pointer p3] 30) := ⟨_, rfl⟩
      rw [← hW5] at S0 ⊢
      replace S := Sealed.mk S0; clear S0 cx cy hW5
      have cx := S.out.cell 2 rfl
      have cy := S.out.cell 1 rfl
      go_upto_region 12 with (go_at_call 33; go_must ((with_reducible refine (Sub_two HV.out.2.2.1 (S.out.cnum 2 rfl) (S.out.cnum 1 rfl)).mono ?_); rintro e w6 ⟨p4, rfl, hb, hn⟩; replace S := Sealed.mk (S.out.res hb hn); clear hb hn))
      have S0 := S.out.new (S.out.num 0 rfl)
      obtain ⟨W6, hW6⟩ : ∃ W6, W6 = w6.alloc (.cells #[.pointer p4] 30) := ⟨_, rfl⟩
      rw [← hW6] at S0 ⊢
      replace S := Sealed.mk S0; clear S0 cx cy hW6
      have cx := S.out.cell 1 rfl
      go_upto_region 13 with (go_at_call 47; go_must ((with_reducible refine (Int_any (S.out.cnum 1 rfl)).mono ?_); rintro e w7 ⟨rfl, hb⟩; rw [HI.out.1]; replace S := Sealed.mk (S.out.adv hb); clear hb))
      clear cx
      have cx := S.out.cell 0 rfl
      go_upto_region 14 with (go_at_call 47; go_must ((with_reducible refine (Int_any (S.out.cnum 0 rfl)).mono ?_); rintro e w8 ⟨rfl, hb⟩; rw [HI.out.2.1]; replace S := Sealed.mk (S.out.adv hb); clear hb))
      clear cx
      go_cut [18] from 84 to 109 (fun v wx => v = .bool (!ia) ∧ w8 = wx)
      case first =>
        have ha := HV.out.2.2.2.2.2.2.1
        have hb := HV.out.2.2.2.2.2.2.2
        have hov := over_iff ha hb
        rw [← HI.out.2.2.2.1] at hov
        obtain ⟨s, hws⟩ : ∃ s, wrap64 (a + b) = s := ⟨_, rfl⟩
        rw [hws] at hov
        have HO := Sealed.mk hov
        clear ha hb hov
        go_wp2_with fail
        all_goals
          go_meet
          case rel =>
            refine ⟨?_, rfl⟩
            rw [HO.out]
            clear HO HI HV HF S
            first
              | rfl
              | (simp [*]; done)
              | (simp [*]; omega)
      case rest =>
        obtain ⟨rfl, rfl⟩ := hcut
        go_upto_region 15 with fail
        go_cut [19] from 110 to 135 (fun v wx => v = .bool (!id) ∧ w8 = wx)
        case first =>
          have ha := HV.out.2.2.2.2.2.2.1
          have hb := HV.out.2.2.2.2.2.2.2
          have hov := under_iff ha hb
          rw [← HI.out.2.2.2.2.2] at hov
          obtain ⟨s, hws⟩ : ∃ s, wrap64 (a - b) = s := ⟨_, rfl⟩
          rw [hws] at hov
          have HO := Sealed.mk hov
          clear ha hb hov
          go_wp2_with fail
          all_goals
            go_meet
            case rel =>
              refine ⟨?_, rfl⟩
              rw [HO.out]
              clear HO HI HV HF S
              first
                | rfl
                | (simp [*]; done)
                | (simp [*]; omega)
        case rest =>
          obtain ⟨rfl, rfl⟩ := hcut
          go_upto_region 16 with fail
          go_cut [178] from 136 to 178 (fun v wx => v = .bool false ∧ Below w8.heap.size w8 wx)
          case first =>
            have ha := HV.out.2.2.2.2.2.2.1
            have hb := HV.out.2.2.2.2.2.2.2
            have k1 : (ia = true ∧ va = a + b ∧ wrap64 (a + b) = a + b) ∨ ia = false := by
              by_cases h : Is64 (a + b)
              · exact .inl ⟨by rw [HI.out.2.2.2.1]; simp [h], by rw [HI.out.2.2.1, if_pos h], by unfold Is64 at h; unfold wrap64; omega⟩
              · exact .inr (by rw [HI.out.2.2.2.1]; simp [h])
            have k2 : (id = true ∧ vd = a - b ∧ wrap64 (a - b) = a - b) ∨ id = false := by
              by_cases h : Is64 (a - b)
              · exact .inl ⟨by rw [HI.out.2.2.2.2.2]; simp [h], by rw [HI.out.2.2.2.2.1, if_pos h], by unfold Is64 at h; unfold wrap64; omega⟩
              · exact .inr (by rw [HI.out.2.2.2.2.2]; simp [h])
            have cx := S.out.cell 3 rfl
            have cy := S.out.cell 2 rfl
            clear ha hb HI
            rcases k1 with ⟨rfl, rfl, e1⟩ | rfl <;> rcases k2 with ⟨rfl, rfl, e2⟩ | rfl
            all_goals
              go_wp2_with (go_at_call 37; go_must ((with_reducible refine (Cmp_any (S.out.cnum 3 rfl) (S.out.cnum 2 rfl)).mono ?_); rintro e w9 ⟨rfl, hb⟩; have HB := Sealed.mk hb; clear hb))
              go_meet
              case rel => exact ⟨by first | rfl | (congr 1; simp [*]), HB.out⟩
          case rest =>
            obtain ⟨rfl, hbc⟩ := hcut
            obtain ⟨W9, hW9⟩ : ∃ W9, W9 = wc := ⟨_, rfl⟩
            rw [← hW9] at hbc ⊢
            clear hW9
            replace S := Sealed.mk (S.out.adv hbc)
            clear hbc
            go_upto_region 18 with fail
            go_upto_region 19 with (first
              | (go_at_call 21; go_must (first
                  | ((with_reducible refine (HF.out.2.2.1 _).mono ?_); rintro e w10 ⟨p5, rfl, hb, hn⟩; replace S := Sealed.mk (S.out.res hb hn); clear hb hn)
                  | ((with_reducible refine (HF.out.2.2.2 _).mono ?_); rintro e w11 ⟨p6, rfl, hb, hn⟩; replace S := Sealed.mk (S.out.res hb hn); clear hb hn)))
              | (go_at_call 34; go_must ((with_reducible refine (Mul_two HV.out.2.2.2.1 (S.out.num 1 rfl) (S.out.num 0 rfl)).mono ?_); rintro e w12 ⟨p7, rfl, hb, hn⟩; replace S := Sealed.mk (S.out.res hb hn); clear hb hn)))
            have S0 := S.out.new (S.out.num 0 rfl)
            obtain ⟨W12, hW12⟩ : ∃ W12, W12 = w12.alloc (.cells #[.pointer p7] 30) := ⟨_, rfl⟩
            rw [← hW12] at S0 ⊢
            replace S := Sealed.mk S0; clear S0 hW12
            have cx := S.out.cell 0 rfl
            go_upto_region 20 with (go_at_call 47; go_must ((with_reducible refine (Int_any (S.out.cnum 0 rfl)).mono ?_); rintro e w13 ⟨rfl, hb⟩; rw [HV.out.2.2.2.2.1]; replace S := Sealed.mk (S.out.adv hb); clear hb))
            have hwm : wrap64 (a / 8589934592 * (b / 8589934592)) = a / 8589934592 * (b / 8589934592) := by
              have := HV.out.2.2.2.2.2.1
              unfold Is64 at this
              unfold wrap64
              omega
            go_wp2_with (go_at_call 15; go_must ((with_reducible refine (awake1_any _).mono ?_); rintro e w14 ⟨rfl, hb⟩; replace S := Sealed.mk (S.out.adv hb); clear hb))
            go_ret
            exact ⟨rfl, S.out.below⟩

end Go.Proofs.Ytgchfbfgjanaiaa
