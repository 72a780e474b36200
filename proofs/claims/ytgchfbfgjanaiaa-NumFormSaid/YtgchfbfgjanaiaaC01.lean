/-
  what a law's walk holds: the numbers that are known, the cells of the variables
  plain facts for the laws of law01
  sandreckonerref01.Same
  sandreckonerlaw01: same, modest
  sandreckonerlaw01.terms
  a call that leaves the world as it is may be taken first, in a region that draws its order
  sandreckonerlaw01.rest
  lists of numbers in memory
  sandreckonerlaw01.called
-/
import Derived.Test.YtgchfbfgjanaiaaJ34
import Derived.Test.YtgchfbfgjanaiaaJ32
import Derived.Deep.DeepCutAuto
import Derived.Deep.RegionHeld3
import Derived.Test.YtgchfbfgjanaiaaJ01
set_option linter.unusedSimpArgs false
set_option linter.unusedVariables false
namespace Go.Proofs.Ytgchfbfgjanaiaa
open Go.RowKit Sr
abbrev NumL := List (Option Addr × Int)
abbrev CellL := List (Nat × Option Addr × Int)
structure St (w0 W : World) (nums : NumL) (cells : CellL) : Prop where
  below : Below w0.heap.size w0 W
  nums_ : ∀ (i : Nat) (p : Option Addr) (x : Int), nums[i]? = some (p, x) → NumIs W (.agg #[.pointer p]) x
  cells_ : ∀ (i : Nat) (k : Nat) (p : Option Addr) (x : Int), cells[i]? = some (k, p, x) → NC W k p x ∧ w0.heap.size ≤ k
  apart : (cells.map (·.1)).Nodup
variable {w0 W W' : World} {nums : NumL} {cells : CellL}
theorem St.start (w0 : World) : St w0 w0 [] [] := ⟨Below.refl _ _, fun i p x h => by simp at h, fun i k p x h => by simp at h, by simp⟩
theorem St.num (h : St w0 W nums cells) (i : Nat) {p : Option Addr} {x : Int} (hi : nums[i]? = some (p, x)) : NumIs W (.agg #[.pointer p]) x := h.nums_ i p x hi
theorem St.cnum (h : St w0 W nums cells) (i : Nat) {k : Nat} {p : Option Addr} {x : Int} (hi : cells[i]? = some (k, p, x)) : NumIs W (.agg #[.pointer p]) x := (h.cells_ i k p x hi).1.2
theorem St.cell (h : St w0 W nums cells) (i : Nat) {k : Nat} {p : Option Addr} {x : Int} (hi : cells[i]? = some (k, p, x)) : W.cell? ⟨k, 0, none⟩ = some (.pointer p) := (h.cells_ i k p x hi).1.cell
theorem St.blk (h : St w0 W nums cells) (i : Nat) {k : Nat} {p : Option Addr} {x : Int} (hi : cells[i]? = some (k, p, x)) : W.heap[k]? = some (.cells #[.pointer p] 30 (0, 0)) := (h.cells_ i k p x hi).1.1
theorem St.frozen (h : St w0 W nums cells) (i : Nat) {k : Nat} {p : Option Addr} {x : Int} (hi : cells[i]? = some (k, p, x)) : W.frozen? ⟨k, 0, none⟩ = false := frozen_of_blk (h.blk i hi) 0
theorem St.adv (h : St w0 W nums cells) (hb : Below W.heap.size W W') : St w0 W' nums cells :=
  ⟨below_chain h.below hb, fun i p x hi => (h.nums_ i p x hi).below hb, fun i k p x hi => ⟨(h.cells_ i k p x hi).1.below hb, (h.cells_ i k p x hi).2⟩, h.apart⟩
theorem St.na (h : St w0 W nums cells) {o : Obj} : St w0 (W.alloc o) nums cells := h.adv (below_new _ _)
theorem St.dr (h : St w0 W nums cells) : St w0 W.drew nums cells := h.adv (below_drew _)
theorem St.push (h : St w0 W nums cells) {p : Option Addr} {x : Int} (hn : NumIs W (.agg #[.pointer p]) x) : St w0 W ((p, x) :: nums) cells :=
  ⟨h.below, fun i q y hi => by
    cases i with
    | zero => simp at hi; obtain ⟨rfl, rfl⟩ := hi; exact hn
    | succ i => exact h.nums_ i q y (by simpa using hi), h.cells_, h.apart⟩
theorem St.res (h : St w0 W nums cells) {p : Option Addr} {x : Int} (hb : Below W.heap.size W W') (hn : NumIs W' (.agg #[.pointer p]) x) : St w0 W' ((p, x) :: nums) cells := (h.adv hb).push hn
theorem St.clr (h : St w0 W nums cells) : St w0 W [] cells := ⟨h.below, fun i p x h => by simp at h, h.cells_, h.apart⟩
theorem St.lt (h : St w0 W nums cells) : ∀ k ∈ cells.map (·.1), k < W.heap.size := fun k hk => by
  obtain ⟨⟨k', p, x⟩, ht, rfl⟩ := List.mem_map.1 hk
  obtain ⟨i, hi⟩ := List.getElem?_of_mem ht
  exact lt_of_blk (h.cells_ i k' p x hi).1.1
theorem St.cel (h : St w0 W nums cells) {k : Nat} {p : Option Addr} {x : Int} (hc : NC W k p x) (hk : w0.heap.size ≤ k) (ha : ∀ j ∈ cells.map (·.1), j ≠ k) : St w0 W nums ((k, p, x) :: cells) :=
  ⟨h.below, h.nums_, fun i k' q y hi => by
    cases i with
    | zero => simp at hi; obtain ⟨rfl, rfl, rfl⟩ := hi; exact ⟨hc, hk⟩
    | succ i => exact h.cells_ i k' q y (by simpa using hi), by
    rw [List.map_cons, List.nodup_cons]
    exact ⟨fun hm => ha _ hm rfl, h.apart⟩⟩
theorem St.new (h : St w0 W nums cells) {p : Option Addr} {x : Int} (hn : NumIs W (.agg #[.pointer p]) x) : St w0 (W.alloc (.cells #[.pointer p] 30)) nums ((W.heap.size, p, x) :: cells) :=
  h.na.cel (NC.make hn) h.below.size fun j hj e => by have := h.lt j hj; omega
theorem St.new2 (h : St w0 W nums cells) {p q : Option Addr} {x y : Int} (hx : NumIs W (.agg #[.pointer p]) x) (hy : NumIs W (.agg #[.pointer q]) y) :
    St w0 ((W.alloc (.cells #[.pointer p] 30)).alloc (.cells #[.pointer q] 30)) nums ((W.heap.size + 1, q, y) :: (W.heap.size, p, x) :: cells) := by
  have := (h.new hx).new (hy.below (below_new _ _))
  simpa only [World.size_alloc] using this
theorem St.new3 (h : St w0 W nums cells) {p q r : Option Addr} {x y z : Int} (hx : NumIs W (.agg #[.pointer p]) x) (hy : NumIs W (.agg #[.pointer q]) y) (hz : NumIs W (.agg #[.pointer r]) z) :
    St w0 (((W.alloc (.cells #[.pointer p] 30)).alloc (.cells #[.pointer q] 30)).alloc (.cells #[.pointer r] 30)) nums ((W.heap.size + 1 + 1, r, z) :: (W.heap.size + 1, q, y) :: (W.heap.size, p, x) :: cells) := by
  have := (h.new2 hx hy).new (hz.below (below_chain (below_new _ _) (below_new _ _)))
  simpa only [World.size_alloc] using this
theorem St.drop (h : St w0 W nums cells) (n : Nat) : St w0 W nums (cells.drop n) :=
  ⟨h.below, h.nums_, fun i k p x hi => h.cells_ (n + i) k p x (by rwa [List.getElem?_drop] at hi), by rw [List.map_drop]; exact h.apart.sublist (List.drop_sublist _ _)⟩
theorem St.sub {cells' : CellL} (h : St w0 W nums cells) (hs : ∀ t ∈ cells', t ∈ cells) (hn : (cells'.map (·.1)).Nodup) : St w0 W nums cells' :=
  ⟨h.below, h.nums_, fun i k p x hi => by
    obtain ⟨j, hj⟩ := List.getElem?_of_mem (hs _ (List.mem_of_getElem? hi))
    exact h.cells_ j k p x hj, hn⟩
theorem St.put (h : St w0 W nums cells) (i : Nat) {k : Nat} {p q : Option Addr} {x z : Int} (hi : cells[i]? = some (k, p, x)) (hn : NumIs W (.agg #[.pointer q]) z) : St w0 (W.setCell ⟨k, 0, none⟩ (.pointer q)) nums (cells.set i (k, q, z)) := by
  have hz := h.blk i hi
  have hx : Ext (fun j => j = k) W (W.setCell ⟨k, 0, none⟩ (.pointer q)) := (Ext.refl (fun j => j = k) W).setCell (p := ⟨k, 0, none⟩) (.inl rfl) _
  have hlen : i < cells.length := (List.getElem?_eq_some_iff.1 hi).1
  refine ⟨h.below.setCell (h.cells_ i k p x hi).2 _, fun i r x hi => (h.nums_ i r x hi).other hz hx, fun j k' r y hj => ?_, ?_⟩
  · by_cases e : i = j
    · subst e
      rw [List.getElem?_set_self hlen] at hj
      obtain ⟨rfl, rfl, rfl⟩ := by simpa using hj
      exact ⟨⟨by rw [blk_setCell hz]; rfl, hn.other hz hx⟩, (h.cells_ i k p x hi).2⟩
    · rw [List.getElem?_set_ne e] at hj
      obtain ⟨⟨a1, a2⟩, a3⟩ := h.cells_ j k' r y hj
      refine ⟨⟨hx.get a1 fun ek => ?_, a2.other hz hx⟩, a3⟩
      have ek' : k' = k := ek
      have hn' := List.pairwise_iff_getElem.1 h.apart
      have hj' : j < cells.length := (List.getElem?_eq_some_iff.1 hj).1
      have e1 : (cells.map (·.1))[i]'(by simpa using hlen) = k := by
        rw [List.getElem_map, (List.getElem?_eq_some_iff.1 hi).2]
      have e2 : (cells.map (·.1))[j]'(by simpa using hj') = k := by
        rw [List.getElem_map, (List.getElem?_eq_some_iff.1 hj).2]; exact ek'
      rcases Nat.lt_or_gt_of_ne e with hlt | hlt
      · exact hn' i j (by simpa using hlen) (by simpa using hj') hlt (e1.trans e2.symm)
      · exact hn' j i (by simpa using hj') (by simpa using hlen) hlt (e2.trans e1.symm)
  · have : (cells.set i (k, q, z)).map (·.1) = cells.map (·.1) := by
      rw [List.map_set]
      apply List.ext_getElem?
      intro j
      by_cases e : i = j
      · subst e
        rw [List.getElem?_set_self (by simpa using hlen), List.getElem?_map, hi]; rfl
      · rw [List.getElem?_set_ne e]
    rw [this]; exact h.apart
end Go.Proofs.Ytgchfbfgjanaiaa

namespace Go.Proofs.Ytgchfbfgjanaiaa
open Go.RowKit Sr
theorem part_le {x : Int} {n : Nat} (h : ∀ e ∈ exps x, e ≤ n) {e : Nat} (hp : Part e x) : e ≤ n := by
  rcases part_iff.1 hp with ⟨f, hf, rfl | hp⟩
  · exact h _ hf
  · have := hp.lt; have := h f hf; simp at *; omega
theorem plist_le {x : Int} {n : Nat} (h : ∀ e ∈ exps x, e ≤ n) : (plist x).length ≤ n + 1 := by
  have := nodup_sub_nat (a := plist x) (b := List.range (n + 1)) (plist_nodup x) fun e he => by
    have := part_le h (mem_plist.1 he)
    rw [List.mem_range]; omega
  simpa using this
theorem allowed_le {x : Int} {n : Nat} (hn : n ≤ 90) (h : ∀ e ∈ exps x, e ≤ n) : Allowed x := by
  have h1 := plist_le h
  refine ⟨?_, fun e he => ?_, ?_, ?_⟩
  · have := form_length_le (x := x) (n := n + 1) fun e he => by have := h e he; omega
    omega
  · have := form_length_nat e
    have := part_le h he
    omega
  · unfold weight; omega
  · have := height_plist _ (Nat.lt_succ_self x.natAbs)
    omega
theorem allowed_abs {x : Int} (h : x.natAbs ≤ 2 ^ 66) : Allowed x := by
  refine allowed_le (n := 67) (by decide) fun e he => ?_
  have h1 := exps_pow he
  by_cases h2 : e ≤ 67
  · exact h2
  · have h3 := pow_mono (show 69 ≤ e + 1 by omega)
    have h4 : ((2 : Int) ^ 69) = 590295810358705651712 := by decide
    have h5 : (2 : Nat) ^ 66 = 73786976294838206464 := by decide
    omega
theorem gv_ok {z : Int} (h : Allowed z) : gv z = (z, 0) := by unfold gv; rw [if_pos h]
theorem gv_no {z : Int} (h : ¬ Allowed z) : gv z = (0, 5) := by unfold gv; rw [if_neg h]
theorem gv_err {z : Int} : (gv z).2 = 0 ↔ Allowed z := by
  by_cases h : Allowed z
  · rw [gv_ok h]; simp [h]
  · rw [gv_no h]; simp [h]
theorem sg_flip (z : Int) : sg (-z) = -sg z := by unfold sg; split <;> split <;> (try split) <;> omega
theorem sg_swap (x y : Int) : sg (y - x) = -sg (x - y) := by rw [← sg_flip]; congr 1; omega
theorem sg_neg3 (x y : Int) : sg (-x - -y) = -sg (x - y) := by rw [← sg_flip]; congr 1; omega
theorem sg_cases (z : Int) : (z < 0 ∧ sg z = -1) ∨ (z = 0 ∧ sg z = 0) ∨ (0 < z ∧ sg z = 1) := by unfold sg; split <;> (try split) <;> omega
theorem is64_iff {z : Int} : Is64 z ↔ -9223372036854775808 ≤ z ∧ z ≤ 9223372036854775807 := Iff.rfl
end Go.Proofs.Ytgchfbfgjanaiaa

namespace Go.Proofs.Ytgchfbfgjanaiaa
open Go.RowKit Sr
theorem conv_bytes {w : World} {v : Value} {l : List Int} (h : BytesAt w v l) : ∃ a c, v = .slice a l.length c ∧ (convert 22 9 (.slice a l.length c)).run Try.prog w = .ok (.string (strOfNums l)) w := by
  obtain ⟨a, c, rfl, h2, h3, h4⟩ := h.at_
  refine ⟨a, c, rfl, ?_⟩
  by_cases hn : a = none
  · subst hn
    have hl : l = [] := by
      cases l with
      | nil => rfl
      | cons x l => obtain ⟨b, o, e, _⟩ := h4 (by simp); cases e
    subst hl
    exact run_convert_bytes_nil w 22 5 Try.underlying22 Try.underlying5 0 c 9 Try.underlying9
  · obtain ⟨b, o, rfl, _⟩ := h3 hn
    refine run_convert_bytes_arg w 22 5 Try.underlying22 Try.underlying5 b o _ c l rfl (fun i hi => ?_) 9 Try.underlying9
    obtain ⟨b', o', e, _, _, q⟩ := h4 (fun hh => by rw [hh] at hi; simp at hi)
    simp only [Option.some.injEq, Addr.mk.injEq] at e
    obtain ⟨rfl, rfl, _⟩ := e
    exact q i (l.getD i 0) (by rw [List.getD_eq_getElem?_getD, List.getElem?_eq_getElem hi]; rfl)
set_option maxRecDepth 100000 in
set_option maxHeartbeats 4000000 in
theorem Same_any {w : World} {va vb : Value} {la lb : List Int} (ha : BytesAt w va la) (hb : BytesAt w vb lb) : Calls Try.prog 19 #[va, vb] w fun e w' => e = .returned (.bool (decide (la = lb))) ∧ w' = w := by
  obtain ⟨aa, ca, rfl, c1⟩ := conv_bytes ha
  obtain ⟨ab, cb, rfl, c2⟩ := conv_bytes hb
  have hs : (strOfNums la = strOfNums lb) ↔ la = lb := ⟨fun h => strOfNums_inj ha.range hb.range h, fun h => by rw [h]⟩
  have HS := Sealed.mk hs; clear hs
  obtain ⟨na, hna⟩ : ∃ na, na = la.length := ⟨_, rfl⟩
  obtain ⟨nb, hnb⟩ : ∃ nb, nb = lb.length := ⟨_, rfl⟩
  rw [← hna] at c1 ⊢
  rw [← hnb] at c2 ⊢
  clear hna hnb ha hb
  go_enter Try.func19, Try.ntmps19
  go_wp2_with fail
  go_ret
  refine ⟨show Ending.returned (.bool ((strOfNums la).toList == (strOfNums lb).toList)) = _ from ?_, rfl⟩
  rw [btoList, btoList]
  congr 2
  by_cases h : la = lb
  · subst h
    simp
  · rw [decide_eq_false h, beq_eq_false_iff_ne]
    intro e
    exact h (HS.out.1 (ByteArray.ext (Array.ext' e)))
end Go.Proofs.Ytgchfbfgjanaiaa

namespace Go.Proofs.Ytgchfbfgjanaiaa
open Go.RowKit Sr
theorem bytes_bounds {x : Int} (h : Allowed x) : (bytesN x).length ≤ 1000000000 := Nat.le_trans (bytesN_length h) (by decide)
theorem bytesN_iff {x y : Int} (hx : Allowed x) (hy : Allowed y) : decide (bytesN x = bytesN y) = decide (x = y) := by
  by_cases h : x = y
  · subst h; simp
  · rw [decide_eq_false h, decide_eq_false fun e => h (bytesN_inj hx hy e)]
theorem Bytes_at {w : World} {u : Value} {x : Int} (h : NumIs w u x) : Calls Try.prog 23 #[u] w fun e w' => ∃ a c, e = .returned (.slice a (bytesN x).length c) ∧ BytesAt w' (.slice a (bytesN x).length c) (bytesN x) ∧ Below w.heap.size w w' :=
  (Bytes_any h).mono fun e w' q => by
    obtain ⟨a, c, rfl, ho, hb⟩ := q
    exact ⟨a, c, rfl, BytesAt.of_own ho (bytesN_range h.1) (bytes_bounds h.1), hb⟩
set_option maxRecDepth 100000 in
set_option maxHeartbeats 1000000 in
theorem lawSame_any {w : World} {u v : Value} {x y : Int} (hx : NumIs w u x) (hy : NumIs w v y) : Calls Try.prog 20 #[u, v] w fun e w' => e = .returned (.bool (decide (x = y))) ∧ Below w.heap.size w w' := by
  obtain ⟨p, rfl⟩ := hx.ptr
  obtain ⟨q, rfl⟩ := hy.ptr
  have hxy := bytesN_iff hx.1 hy.1
  have S0 := ((St.start w).new hx).new (hy.below (below_new _ _))
  obtain ⟨W2, hW2⟩ : ∃ W2, W2 = (w.alloc (.cells #[.pointer p] 30)).alloc (.cells #[.pointer q] 30) := ⟨_, rfl⟩
  simp only [World.size_alloc] at S0
  rw [← hW2] at S0
  have S := Sealed.mk S0.dr; clear S0 hx hy
  have HXY := Sealed.mk hxy; clear hxy
  go_enter Try.func20, Try.ntmps20
  go_upto_region 1 with fail
  rw [← hW2]
  clear hW2
  go_region_held3 (fun W => W.cell? ⟨w.heap.size, 0, none⟩ = some (.pointer p) ∧ W.cell? ⟨w.heap.size + 1, 0, none⟩ = some (.pointer q))
    (exact ⟨S.out.cell 1 rfl, S.out.cell 0 rfl⟩)
    (first
      | (go_at_call 23; go_must (first
          | ((with_reducible refine (Bytes_at (S.out.cnum 1 rfl)).mono ?_); rintro e w3 ⟨a3, c3, rfl, hb3, hb⟩; replace S := Sealed.mk (S.out.adv hb); have S3 := Sealed.mk hb3; clear hb3 hb)
          | ((with_reducible refine (Bytes_at (S.out.cnum 0 rfl)).mono ?_); rintro e w4 ⟨a4, c4, rfl, hb4, hb⟩; replace S := Sealed.mk (S.out.adv hb); replace S3 := Sealed.mk (S3.out.below hb); have S4 := Sealed.mk hb4; clear hb4 hb)))
      | (go_at_call 19; go_must (refine (Same_any S3.out S4.out).mono ?_; rintro e w5 ⟨rfl, hb⟩; subst hb)))
  go_wp2_with fail
  go_ret
  exact ⟨show Ending.returned (.bool (decide (bytesN x = bytesN y))) = _ by rw [HXY.out], S.out.below⟩
end Go.Proofs.Ytgchfbfgjanaiaa

namespace Go.Proofs.Ytgchfbfgjanaiaa
open Go.RowKit Sr
def bitZ (n : Int) (i : Nat) : Bool := bits BinOp.and IntKind.i64 (n / 2 ^ i) 1 == 1
def termZ (x y n : Int) (i : Nat) : Bool × Int := (bitZ n i, if bitZ n (8 + i) = true then y else x)
def termsL (x y n : Int) : List (Bool × Int) := (List.range 8).map (termZ x y n)
theorem termsL_length (x y n : Int) : (termsL x y n).length = 8 := by simp [termsL]
theorem termsL_at (x y n : Int) {k : Nat} (h : k < 8) : (termsL x y n)[k]? = some (termZ x y n k) := by simp [termsL, h]
set_option maxRecDepth 100000 in
set_option maxHeartbeats 1000000 in
theorem lawTerms_any {w : World} {u v : Value} {x y n : Int} (hx : NumIs w u x) (hy : NumIs w v y) : Calls Try.prog 103 #[u, v, .int .i64 n] w fun e w' => ∃ a c ts, e = .returned (.slice a 8 c) ∧ TermsOwn w' w.heap.size (.slice a 8 c) (termsL x y n) ts ∧ Below w.heap.size w w' := by
  obtain ⟨p, rfl⟩ := hx.ptr
  obtain ⟨q, rfl⟩ := hy.ptr
  have S0 := ((St.start w).new hx).new (hy.below (below_new _ _))
  obtain ⟨W2, hW2⟩ : ∃ W2, W2 = (w.alloc (.cells #[.pointer p] 30)).alloc (.cells #[.pointer q] 30) := ⟨_, rfl⟩
  have s2 : W2.heap.size = w.heap.size + 2 := by rw [hW2]; simp
  simp only [World.size_alloc] at S0
  rw [← hW2] at S0
  have H := Sealed.mk (And.intro S0 s2); clear S0 s2 hx hy
  go_enter Try.func103, Try.ntmps103
  go_wp2_with fail
  rw [← hW2]
  go_loopg [7, 8] 8 (fun jj av iv W => ∃ (k : Nat) (oa : Option Addr) (oc : Nat) (ts : List (Bool × Option Addr)), jj = 8 - k ∧ k ≤ 8 ∧ iv = .int .i64 (k : Int) ∧ av = .slice oa k oc ∧ TermsOwn W (w.heap.size + 2) (.slice oa k oc) ((termsL x y n).take k) ts ∧ Below W2.heap.size W2 W)
  case atStart =>
    refine ⟨0, _, 0, [], rfl, by omega, rfl, rfl, ⟨?_, rfl, fun i t s ht _ => by simp at ht⟩, below_new _ _⟩
    have := World.ownsRow_lit (base := w.heap.size + 2) (e := 47) (size := 2) W2 #[] 0 (by rw [H.out.2]; exact Nat.le_refl _) (by decide) rfl
    rw [H.out.2] at this
    simpa [trow] using this
  case round =>
    obtain ⟨k, oa, oc, ts, rfl, hk, rfl, rfl, hto, hb⟩ := hrel
    have S := H.out.1.adv hb
    by_cases hkl : k < 8
    · have cp := S.cell 1 rfl
      have cq := fun o => (S.na (o := o)).cell 0 rfl
      have hk8 : wrap64 (8 + (k : Int)) = ((8 + k : Nat) : Int) := by unfold wrap64; omega
      have hlen : ((termsL x y n).take k).length = k := by rw [List.length_take, termsL_length]; omega
      have HT := Sealed.mk (And.intro hto (And.intro hb (And.intro S hlen))); clear hto hb S hlen
      go_upto_region 8 with fail
      all_goals
        obtain ⟨r, hr⟩ : ∃ r : Option Addr, r = (if bitZ n (8 + k) = true then q else p) := ⟨_, rfl⟩
        obtain ⟨z, hz⟩ : ∃ z : Int, z = (if bitZ n (8 + k) = true then y else x) := ⟨_, rfl⟩
        have hbit : bitZ n (8 + k) = (bits BinOp.and IntKind.i64 (n / 2 ^ (8 + k)) 1 == 1) := rfl
        have hnz : NumIs wr (.agg #[.pointer r]) z := by
          rw [hr, hz]
          split
          · exact HT.out.2.2.1.cnum 0 rfl
          · exact HT.out.2.2.1.cnum 1 rfl
        first
          | (have hrp : r = q := by rw [hr, hbit, if_pos (by assumption)])
          | (have hrp : r = p := by rw [hr, hbit, if_neg (by simp [*])])
        obtain ⟨W4, hW4⟩ : ∃ W4, W4 = wr.alloc (.cells #[.bool (bits BinOp.and IntKind.i64 (n / 2 ^ k) 1 == 1), .pointer r] 47) := ⟨_, rfl⟩
        have b4 : Below wr.heap.size wr W4 := by rw [hW4]; exact below_new _ _
        have kb4 : W4.heap[wr.heap.size]? = some (.cells #[.bool (bits BinOp.and IntKind.i64 (n / 2 ^ k) 1 == 1), .pointer r] 47 (0, 0)) := by rw [hW4]; exact blk_alloc _ _
        have k0 : W4.cell? ⟨wr.heap.size, 0, none⟩ = some (.bool (bits BinOp.and IntKind.i64 (n / 2 ^ k) 1 == 1)) := (cell_of_blk kb4 0).trans rfl
        have k1 : W4.cell? ⟨wr.heap.size, 1, none⟩ = some (.pointer r) := (cell_of_blk kb4 1).trans rfl
        have hto4 := HT.out.1.below b4
        have hown4 := hto4.own
        rw [HT.out.2.2.2] at hown4
        have HN := Sealed.mk (And.intro hnz (And.intro b4 (And.intro hto4 (And.intro hown4 (And.intro hr hz))))); clear hnz b4 kb4 hto4 hown4 hr hz hbit
        first
          | rw [show wr.alloc (.cells #[.bool (bits BinOp.and IntKind.i64 (n / 2 ^ k) 1 == 1), .pointer q] 47) = W4 by rw [hW4, hrp]]
          | rw [show wr.alloc (.cells #[.bool (bits BinOp.and IntKind.i64 (n / 2 ^ k) 1 == 1), .pointer p] 47) = W4 by rw [hW4, hrp]]
        clear hrp
        have hs4 : w.heap.size + 2 ≤ W4.heap.size := by have h1 := HN.out.2.1.size; have h2 := HT.out.2.1.size; have h3 := H.out.2; omega
        clear hW4
        go_wp2_with (at_builtin; go_must (refine ap_litp (m := 1) el_Term (.tmp 32) (.tmp 34) rfl rfl rfl HN.out.2.2.2.1 rfl (by simp) rfl (by decide) ?g1 ?g2 ?g3 ?g4))
        case g1 => simp [Value.oneCell']
        case g2 => omega
        case g3 => exact hs4
        case g4 =>
          intro g11 c11 w11 ho11 hg11 hn11
          have H11 := Sealed.mk (And.intro ho11 hg11); clear ho11 hg11 hn11
          go_wp2_with fail
          go_roundg (8 - (k + 1))
          case measure => omega
          case rel =>
            refine ⟨k + 1, _, _, ts ++ [(bits BinOp.and IntKind.i64 (n / 2 ^ k) 1 == 1, r)], rfl, by omega, by push_cast; rfl, rfl, ?_, ?_⟩
            · rw [take_snoc (termsL_at x y n hkl)]
              refine HN.out.2.2.1.push (n := k) (Below.refl _ _) HT.out.2.2.2.symm ?_ H11.out.2 H11.out.1
              rw [← HN.out.2.2.2.2.2]
              exact HN.out.1.below HN.out.2.1
            · have h1 := below_chain HT.out.2.1 HN.out.2.1
              exact h1.grown H11.out.2 h1.size (fun q hq => by have := own_ge HN.out.2.2.2.1 q hq; have := H.out.2; omega)
    · have hkk : k = 8 := by omega
      subst hkk
      rw [List.take_of_length_le (by rw [termsL_length]; exact Nat.le_refl _)] at hto
      have HF := Sealed.mk (And.intro hto (below_chain H.out.1.below hb)); clear hto hb S
      go_wp2_with fail
      go_ret
      exact ⟨oa, oc, ts, rfl, ⟨own_lower HF.out.1.own (by omega), HF.out.1.len, HF.out.1.num⟩, HF.out.2⟩
end Go.Proofs.Ytgchfbfgjanaiaa

namespace Go.Proofs.Ytgchfbfgjanaiaa
open Go
section
variable {P : Program} {ops : Array Oper} {Q : Exit → Act → World → Prop} {md : Region.Mode} {S : World → Prop}
def CallsIf (P : Program) (ops : Array Oper) (S : World → Prop) (o : Oper) (v : Value) (a : Act) : Prop :=
  Region.wanted o (yielded ops a.tmps) = true ∧ ∀ w, S w → ∃ f args, (execOp a.eval o).run P w = .ok (.enter f args) w ∧ Calls P f args w fun e w' => e = .returned v ∧ w' = w
theorem CallsIf.like {o : Oper} {v : Value} {a b : Act} (h : CallsIf P ops S o v a) (e : execOp b.eval o = execOp a.eval o) (k : Region.wanted o (yielded ops b.tmps) = Region.wanted o (yielded ops a.tmps)) : CallsIf P ops S o v b := by
  unfold CallsIf
  rw [e, k]
  exact h
theorem CallsIf.run {i : Nat} {o : Oper} {v : Value} {a : Act} (hi : ops[i]? = some o) (h : CallsIf P ops S o v a) {K : Act → World → Prop} {w : World} (hS : S w) (hK : K (a.put o.dst v) w) : wpOp P ops Q i K a w := by
  obtain ⟨h1, h2⟩ := h
  obtain ⟨f, args, h3, h4⟩ := h2 w hS
  unfold wpOp
  simp only [hi, h1, if_true]
  refine .inl ?_
  unfold Oper.wp
  rw [h3]
  simp only [Oper.upon]
  refine h4.mono fun e w' q => ?_
  obtain ⟨rfl, rfl⟩ := q
  exact hK
theorem wpOp_beside {j : Nat} {o k : Oper} {v : Value} (hj : ops[j]? = some k) (hap : o.apart ops k = true) (ho : ∀ cs b, o.op ≠ .select cs b) (hk : ∀ cs b, k.op ≠ .select cs b)
    (hQ : ∀ c a w, Q (.panic c) (a.put o.dst v) w → Q (.panic c) a w) {K : Act → World → Prop} {a : Act} {w : World} (hy : CallsIf P ops S o v a) (h : wpOp P ops Q j K (a.put o.dst v) w) :
    wpOp P ops Q j (fun b w' => CallsIf P ops S o v b ∧ K (b.put o.dst v) w') a w := by
  obtain ⟨h1, h2, h3⟩ := Oper.apart_spec hap
  have key : ∀ (b : Act), CallsIf P ops S o v b → ∀ u, CallsIf P ops S o v (b.put k.dst u) := fun b hb u => hb.like (execOp_put o ho b k.dst u h3) (wanted_put o b k.dst u h3)
  have keyD : ∀ d, CallsIf P ops S o v { a with defers := d :: a.defers } := fun d => hy.like rfl rfl
  have hex := execOp_put k hk a o.dst v h1
  unfold wpOp at *
  simp only [hj] at *
  rw [wanted_put k a o.dst v h1] at h
  by_cases hw : Region.wanted k (yielded ops a.tmps) = true
  · simp only [hw, if_true] at h ⊢
    rcases h with h | ⟨q1, q2⟩
    · refine .inl ?_
      unfold Oper.wp at h ⊢
      rw [hex] at h
      cases hr : (execOp a.eval k).run P w with
      | ok n w' =>
        rw [hr] at h
        cases n with
        | value u => simp only [Oper.upon] at h ⊢; exact ⟨key a hy u, by rw [← Act.put_comm a v u h2]; exact h⟩
        | skip => simp only [Oper.upon] at h ⊢; exact ⟨key a hy undef, by rw [← Act.put_comm a v undef h2]; exact h⟩
        | defer d =>
          simp only [Oper.upon] at h ⊢
          refine ⟨key _ (keyD d) undef, ?_⟩
          rw [← Act.put_comm _ v undef h2, ← Act.put_defers]
          exact h
        | enter f args =>
          simp only [Oper.upon] at h ⊢
          refine Calls.mono h fun e w'' he => ?_
          cases e with
          | returned u => exact ⟨key a hy u, by rw [← Act.put_comm a v u h2]; exact he⟩
          | panicked c => exact hQ _ _ _ he
          | outgrown => exact he
        | row r args => simp only [Oper.upon] at h ⊢; exact Rows.mono h fun u w'' he => ⟨key a hy u, by rw [← Act.put_comm a v u h2]; exact he⟩
        | _ => simp only [Oper.upon] at h ⊢ <;> first | exact h | exact h.elim
      | halt x w' =>
        rw [hr] at h
        cases x with
        | panic u => simp only [Oper.upon] at h ⊢; exact hQ _ _ _ h
        | _ => simp only [Oper.upon] at h ⊢ <;> first | exact h | exact h.elim
    · exact .inr ⟨by unfold Oper.asks at q1 ⊢; rw [hex] at q1; exact q1, q2⟩
  · simp only [hw] at h ⊢
    exact ⟨key a hy undef, by rw [← Act.put_comm a v undef h2]; exact h⟩
theorem wpAnyH_call1 {i : Nat} {o : Oper} {v : Value} (hi : ops[i]? = some o) (hsel : ∀ (j : Nat) (o : Oper) cs b, ops[j]? = some o → o.op ≠ .select cs b)
    (hQ : ∀ c a w, Q (.panic c) (a.put o.dst v) w → Q (.panic c) a w) : ∀ (n : Nat) (l : Array Bool) (a : Act) (w : World),
      (∀ j k, ops[j]? = some k → j ≠ i → l.getD j true = false → (∀ e ∈ k.after, Region.binds md e = true → e.on ≠ i) → o.apart ops k = true) →
      i ∈ Region.ready md ops l → CallsIf P ops S o v a → S w → wpAnyH P md ops Q S n (l.setIfInBounds i true) (a.put o.dst v) w → wpAnyH P md ops Q S (n + 1) l a w
  | n, l, a, w, hfree, hr, hy, hS, H => by
    refine ⟨fun h => (by rw [h] at hr; cases hr), fun j hj => ?_⟩
    by_cases hji : j = i
    · subst hji
      exact hy.run hi hS ⟨hS, H⟩
    · cases n with
      | zero =>
        have := ready_mono hj hji
        rw [H.1] at this
        cases this
      | succ n =>
        obtain ⟨hun, k, hk, hall⟩ := mem_ready.1 hj
        have hno : ∀ e ∈ k.after, Region.binds md e = true → e.on ≠ i := fun e he hb heq => by
          have q1 := hall e he hb
          have q0 := (mem_ready.1 hr).1
          rw [heq] at q1
          rcases Nat.lt_or_ge i l.size with h' | h'
          · simp [h'] at q0 q1; rw [q0] at q1; cases q1
          · simp [Array.getElem?_eq_none h'] at q1
        have step := wpOp_beside hk (hfree j k hk hji hun hno) (fun cs b => hsel i o cs b hi) (fun cs b => hsel j k cs b hk) hQ hy (H.2 j (ready_mono hj hji))
        refine wpOp_mono (fun b w' q => ⟨q.2.1, ?_⟩) step
        refine wpAnyH_call1 hi hsel hQ n (l.setIfInBounds j true) b w' (fun m km hm hmi hmu hmn => hfree m km hm hmi ?_ hmn) (ready_mono hr (Ne.symm hji)) q.1 q.2.1 ?_
        · by_cases hjm : j = m
          · subst hjm; exact hun
          · rw [getD_set_ne true hjm] at hmu; exact hmu
        · rw [Array.setIfInBounds_comm _ _ hji]
          exact q.2.2
theorem wpAnyH_call {i : Nat} {o : Oper} {v : Value} {n : Nat} {l : Array Bool} {a : Act} {w : World} (hi : ops[i]? = some o) (hs : Region.noSelect ops = true) (hf : Region.free md ops l i = true)
    (hr : (Region.ready md ops l).contains i = true) (hQ : ∀ c a w, Q (.panic c) (a.put o.dst v) w → Q (.panic c) a w) (hy : CallsIf P ops S o v a) (hS : S w)
    (h : wpAnyH P md ops Q S n (l.setIfInBounds i true) (a.put o.dst v) w) : wpAnyH P md ops Q S (n + 1) l a w :=
  wpAnyH_call1 hi (Region.noSelect_spec hs) hQ n l a w (Region.free_spec hi hf) (by simpa using hr) hy hS h
end
end Go.Proofs.Ytgchfbfgjanaiaa

namespace Go.Proofs.Ytgchfbfgjanaiaa
open Go.RowKit Sr
theorem restZ {n : Int} {m : Nat} (hm : 0 < m) (hm2 : m ≤ 100000) : (wrap64 (n.tmod m + m)).tmod m = n % (m : Int) := by
  have hm' : (0 : Int) < m := by omega
  have h1 : n.tmod m < m := Int.tmod_lt_of_pos n hm'
  have h2 : -(m : Int) < n.tmod m := by
    have := Int.tmod_lt_of_pos (-n) hm'
    rw [Int.neg_tmod] at this
    omega
  have hw : wrap64 (n.tmod m + m) = n.tmod m + m := by unfold wrap64; omega
  rw [hw, Int.tmod_eq_emod_of_nonneg (by omega), Int.add_emod_right]
  have h3 : n = m * n.tdiv m + n.tmod m := (Int.mul_tdiv_add_tmod n m).symm
  conv => rhs; rw [h3]
  rw [Int.mul_add_emod_self_left]
set_option maxRecDepth 100000 in
theorem lawRest_any (n : Int) (m : Nat) (hm : 0 < m) (hm2 : m ≤ 100000) (w : World) : Calls Try.prog 46 #[.int .i64 n, .int .i64 (m : Int)] w fun e w' => e = .returned (.int .i64 (n % m)) ∧ w' = w := by
  have hz := restZ (n := n) hm hm2
  go_enter Try.func46, Try.ntmps46
  go_wp2_with fail
  go_ret
  exact ⟨rfl, rfl⟩
end Go.Proofs.Ytgchfbfgjanaiaa

namespace Go.Proofs.Ytgchfbfgjanaiaa
open Go.RowKit Sr
theorem el_N : ElemT Try.prog 68 30 1 (.agg #[.pointer none]) 8 := ⟨Try.underlying68, by kernel_rfl, rfl, by decide, by decide⟩
def NsAt (w : World) (v : Value) (zs : List Int) : Prop :=
  (∀ b, v.ownBlock = some b → b < w.heap.size) ∧ ∃ a c, v = .slice a zs.length c ∧ zs.length ≤ c ∧
    (zs ≠ [] → ∃ b o, a = some ⟨b, o, none⟩ ∧ ∀ (i : Nat) (x : Int), zs[i]? = some x → ∃ p, w.cell? ⟨b, o + i, none⟩ = some (.pointer p) ∧ NumIs w (.agg #[.pointer p]) x)
theorem NsAt.below {w w1 : World} {v : Value} {zs : List Int} (h : NsAt w v zs) (e : Below w.heap.size w w1) : NsAt w1 v zs := by
  obtain ⟨h0, a, c, rfl, h2, h3⟩ := h
  refine ⟨fun b hb => Nat.lt_of_lt_of_le (h0 b hb) e.size, a, c, rfl, h2, fun hne => ?_⟩
  obtain ⟨b, o, rfl, h4⟩ := h3 hne
  refine ⟨b, o, rfl, fun i t ht => ?_⟩
  obtain ⟨p, q1, q3⟩ := h4 i t ht
  exact ⟨p, (cell_same (e.block b (h0 b rfl)) _).trans q1, q3.below e⟩
structure NsOwn (w : World) (B : Nat) (v : Value) (zs : List Int) (ps : List (Option Addr)) : Prop where
  own : w.ownsRow B 30 1 v zs.length (ps.map Value.pointer)
  len : ps.length = zs.length
  num : ∀ (i : Nat) (p : Option Addr) (x : Int), ps[i]? = some p → zs[i]? = some x → NumIs w (.agg #[.pointer p]) x
variable {w w1 w2 : World} {B : Nat} {v v' : Value} {zs : List Int} {ps : List (Option Addr)}
theorem NsOwn.at_ (h : NsOwn w B v zs ps) : NsAt w v zs := by
  obtain ⟨a, c, rfl⟩ := own_slice h.own
  refine ⟨fun b hb => (h.own.lt b hb).2, a, c, rfl, ?_, fun hne => ?_⟩
  · rcases h.own.2 with ⟨e, e0⟩ | ⟨g, cap, cur, e, _, _, hn', _⟩
    · obtain ⟨-, h1, -⟩ := Value.slice.inj e; omega
    · obtain ⟨-, -, rfl⟩ := Value.slice.inj e; exact hn'
  · obtain ⟨g, cap, e1⟩ := own_form h.own (List.length_pos_iff.2 hne)
    obtain ⟨rfl, -, rfl⟩ := Value.slice.inj e1
    refine ⟨g, 0, rfl, fun i s hs => ?_⟩
    have hi : i < ps.length := by rw [h.len]; exact (List.getElem?_eq_some_iff.1 hs).1
    have ht : ps[i]? = some ps[i] := List.getElem?_eq_getElem hi
    have h2 := h.num i _ s ht hs
    rw [Nat.zero_add]
    exact ⟨ps[i], own_cell h.own rfl (by rw [List.getElem?_map, ht]; rfl), h2⟩
theorem NsOwn.keep {M : Nat → Prop} (h : NsOwn w B v zs ps) (e : Ext M w w1) (ha : Apart w M) (hM : ∀ q, v.ownBlock = some q → ¬ M q) : NsOwn w1 B v zs ps :=
  ⟨own_ext h.own e hM, h.len, fun i t s ht hs => (h.num i t s ht hs).apart ha e⟩
theorem NsOwn.below (h : NsOwn w B v zs ps) (e : Below w.heap.size w w1) : NsOwn w1 B v zs ps :=
  h.keep (Ext.of_below (M := noB) e) (fun _ h => h.elim) (fun _ _ h => h)
theorem NsOwn.push {n : Nat} (h : NsOwn w B v zs ps) {p : Option Addr} {x : Int} (hb : Below w.heap.size w w1) (hn : n = zs.length) (hx : NumIs w1 (.agg #[.pointer p]) x) (hg : w1.grownBy w2 v.ownBlock) (hown : w2.ownsRow B 30 1 v' (n + 1) (ps.map Value.pointer ++ [.pointer p])) : NsOwn w2 B v' (zs ++ [x]) (ps ++ [p]) := by
  have h1 := h.below hb
  have hx2 : Ext (fun q => v.ownBlock = some q) w1 w2 := ⟨hg.os, hg.tape, hg.output, hg.size, fun q hq hn => hg.block q hq fun e => hn e.symm⟩
  have ha := own_apart h1.own (by decide)
  subst hn
  refine ⟨by rw [List.length_append, List.map_append]; exact hown, by simp [h.len], fun i t s ht hs => ?_⟩
  by_cases hi : i < zs.length
  · rw [List.getElem?_append_left (by rw [h.len]; exact hi)] at ht
    rw [List.getElem?_append_left hi] at hs
    exact (h1.num i t s ht hs).apart ha hx2
  · rw [List.getElem?_append_right (by rw [h.len]; omega)] at ht
    rw [List.getElem?_append_right (by omega)] at hs
    have h0 : i - zs.length = 0 := by
      have := (List.getElem?_eq_some_iff.1 hs).1
      simp at this; omega
    rw [h.len, h0] at ht
    rw [h0] at hs
    simp at ht hs
    subst ht
    subst hs
    exact hx.apart ha hx2
theorem NsAt.pick (h : NsAt w v zs) {i : Nat} (hi : i < zs.length) : ∃ b o c p x, v = .slice (some ⟨b, o, none⟩) zs.length c ∧ zs.length ≤ c ∧ b < w.heap.size ∧ zs[i]? = some x ∧ w.cell? ⟨b, o + i, none⟩ = some (.pointer p) ∧ NumIs w (.agg #[.pointer p]) x := by
  obtain ⟨h0, a, c, rfl, h2, h3⟩ := h
  obtain ⟨b, o, rfl, h4⟩ := h3 (by intro e; rw [e] at hi; simp at hi)
  have hx : zs[i]? = some zs[i] := List.getElem?_eq_getElem hi
  obtain ⟨p, h5, h6⟩ := h4 i _ hx
  exact ⟨b, o, c, p, zs[i], rfl, h2, h0 b rfl, hx, h5, h6⟩
end Go.Proofs.Ytgchfbfgjanaiaa

namespace Go.Proofs.Ytgchfbfgjanaiaa
open Go.RowKit Sr
noncomputable def callR (zs : List Int) (kd a b n : Int) : Int × Int :=
  let x := zs.getD (a % (zs.length : Int)).toNat 0
  let y := zs.getD (b % (zs.length : Int)).toNat 0
  if kd = 0 then (n, 0) else if kd = 1 then gv (x + y) else if kd = 2 then gv (x - y) else if kd = 3 then (-x, 0) else if kd = 4 then shiftR x y else if kd = 5 then mulR x y else if kd = 6 then shiftR 1 x else sumR (termsL x y n)
theorem lawRest_pick (n : Int) {m : Nat} (hm : 0 < m) (hm2 : m ≤ 100000) : ∃ i : Nat, i < m ∧ (i : Int) = n % (m : Int) ∧ ∀ w, Calls Try.prog 46 #[.int .i64 n, .int .i64 (m : Int)] w fun e w' => e = .returned (.int .i64 (i : Int)) ∧ w' = w := by
  have h1 : 0 ≤ n % (m : Int) := Int.emod_nonneg _ (by omega)
  have h2 : n % (m : Int) < m := Int.emod_lt_of_pos _ (by omega)
  refine ⟨(n % (m : Int)).toNat, by omega, by omega, fun w => ?_⟩
  rw [show (((n % (m : Int)).toNat : Nat) : Int) = n % (m : Int) by omega]
  exact lawRest_any n m hm hm2 w
set_option maxRecDepth 100000 in
set_option maxHeartbeats 1000000 in
theorem lawCalled_any {w : World} {v : Value} {zs : List Int} {kd a b n : Int} (h : NsAt w v zs) (hne : zs ≠ []) (hlen : zs.length ≤ 100000) (hn : Is64 n) : Calls Try.prog 80 #[v, .agg #[.int .i64 kd, .int .i64 a, .int .i64 b, .int .i64 n]] w (Res w (callR zs kd a b n)) := by
  have hpos := List.length_pos_iff.2 hne
  obtain ⟨i, hi, hi2, hr1⟩ := lawRest_pick a hpos hlen
  obtain ⟨j, hj, hj2, hr2⟩ := lawRest_pick b hpos hlen
  obtain ⟨bb, o, c, p, x, rfl, hc, hbb, hx, hcp, hnx⟩ := h.pick hi
  obtain ⟨bb', o', c', q, y, e, -, -, hy, hcq, hny⟩ := h.pick hj
  obtain ⟨e1, -, -⟩ := Value.slice.inj e
  obtain ⟨rfl, rfl⟩ : bb = bb' ∧ o = o' := by simpa using e1
  have hR : callR zs kd a b n = if kd = 0 then (n, 0) else if kd = 1 then gv (x + y) else if kd = 2 then gv (x - y) else if kd = 3 then (-x, 0) else if kd = 4 then shiftR x y else if kd = 5 then mulR x y else if kd = 6 then shiftR 1 x else sumR (termsL x y n) := by
    have ex : zs.getD (a % (zs.length : Int)).toNat 0 = x := by rw [← hi2, Int.toNat_natCast, List.getD_eq_getElem?_getD, hx]; rfl
    have ey : zs.getD (b % (zs.length : Int)).toNat 0 = y := by rw [← hj2, Int.toNat_natCast, List.getD_eq_getElem?_getD, hy]; rfl
    unfold callR
    simp only [ex, ey]
  rw [hR]
  obtain ⟨r, hr⟩ : ∃ r : Int × Int, r = if kd = 0 then (n, 0) else if kd = 1 then gv (x + y) else if kd = 2 then gv (x - y) else if kd = 3 then (-x, 0) else if kd = 4 then shiftR x y else if kd = 5 then mulR x y else if kd = 6 then shiftR 1 x else sumR (termsL x y n) := ⟨_, rfl⟩
  rw [← hr]
  obtain ⟨m, hm⟩ : ∃ m, m = zs.length := ⟨_, rfl⟩
  rw [← hm] at hi hj hr1 hr2 hc ⊢
  have HR := Sealed.mk (And.intro hr1 hr2); clear hr1 hr2 hR e e1 hi2 hj2 h hx hy hpos hlen hne hm
  obtain ⟨W2, hW2⟩ : ∃ W2, W2 = (w.alloc (.cells #[.int .i64 kd, .int .i64 a, .int .i64 b, .int .i64 n] 131)).alloc (.cells #[.pointer none] 30) := ⟨_, rfl⟩
  have z0 : W2.heap[w.heap.size]? = some (.cells #[.int .i64 kd, .int .i64 a, .int .i64 b, .int .i64 n] 131 (0, 0)) := by rw [hW2]; exact blk_alloc_old (blk_alloc _ _) _
  have z1 : W2.heap[w.heap.size + 1]? = some (.cells #[.pointer none] 30 (0, 0)) := by
    rw [hW2]
    have := blk_alloc (w.alloc (.cells #[.int .i64 kd, .int .i64 a, .int .i64 b, .int .i64 n] 131)) (.cells #[.pointer none] 30)
    simpa using this
  have b2 : Below w.heap.size w W2 := by rw [hW2]; exact below_al (below_al (Below.refl _ _))
  have hC : ∀ W, Below W2.heap.size W2 W → W.cell? ⟨w.heap.size, 1, none⟩ = some (.int .i64 a) ∧ W.cell? ⟨w.heap.size, 2, none⟩ = some (.int .i64 b) ∧ W.cell? ⟨bb, o + i, none⟩ = some (.pointer p) ∧ W.cell? ⟨bb, o + j, none⟩ = some (.pointer q) := fun W hb => by
    have y0 := (hb.block _ (lt_of_blk z0)).trans z0
    have hb2 := below_chain b2 hb
    exact ⟨(cell_of_blk y0 1).trans rfl, (cell_of_blk y0 2).trans rfl, (cell_same (hb2.block _ hbb) _).trans hcp, (cell_same (hb2.block _ hbb) _).trans hcq⟩
  have HC := Sealed.mk hC; clear hC
  have S2 : St w W2 [] [(w.heap.size + 1, none, 0)] := ((St.start w).adv b2).cel ⟨z1, NumIs.zero _⟩ (by omega) (by simp)
  have s2 : W2.heap.size = w.heap.size + 2 := by rw [hW2]; simp
  have H := Sealed.mk (And.intro z0 (And.intro s2 (And.intro S2 (And.intro (hnx.below b2) (hny.below b2))))); clear z0 z1 b2 hnx hny hcp hcq S2 s2
  go_enter Try.func80, Try.ntmps80
  go_upto_region 1 with fail
  rw [← hW2]
  clear hW2
  go_cut [6, 7] (fun v6 v7 wx => ∃ k6 k7, v6 = .pointer (some ⟨k6, 0, none⟩) ∧ v7 = .pointer (some ⟨k7, 0, none⟩) ∧ Below W2.heap.size W2 wx ∧ St w wx [] [(k6, p, x), (k7, q, y), (w.heap.size + 1, none, 0)])
  case first =>
    refine wp_region_noPanic ?_
    refine wp_region_held_drew (S := fun W => W.cell? ⟨w.heap.size, 1, none⟩ = some (.int .i64 a) ∧ W.cell? ⟨w.heap.size, 2, none⟩ = some (.int .i64 b) ∧ W.cell? ⟨bb, o + i, none⟩ = some (.pointer p) ∧ W.cell? ⟨bb, o + j, none⟩ = some (.pointer q)) (by kernel_rfl) ?_ (fun hHeld => ?_)
    · exact HC.out _ (below_drew _)
    refine wpAnyH_take (i := 0) (v := ?_) rfl (by kernel_rfl) (by kernel_rfl) (by kernel_rfl) (fun _ _ _ h => h) (Or.inl ⟨by rfl, ?_⟩) (by assumption) ?_
    rotate_left
    · intro w hSw; (try dsimp only at hSw); go_simp; first | done | with_reducible rfl
    simp only [Act.put, List.getElem_toArray, List.getElem_cons_zero, List.getElem_cons_succ, List.setIfInBounds_toArray, List.set_cons_zero, List.set_cons_succ]
    refine wpAnyH_take (i := 1) (v := ?_) rfl (by kernel_rfl) (by kernel_rfl) (by kernel_rfl) (fun _ _ _ h => h) (Or.inl ⟨by rfl, ?_⟩) (by assumption) ?_
    rotate_left
    · intro w hSw; (try dsimp only at hSw); go_simp; first | done | with_reducible rfl
    simp only [Act.put, List.getElem_toArray, List.getElem_cons_zero, List.getElem_cons_succ, List.setIfInBounds_toArray, List.set_cons_zero, List.set_cons_succ]
    refine wpAnyH_take (i := 2) (v := ?_) rfl (by kernel_rfl) (by kernel_rfl) (by kernel_rfl) (fun _ _ _ h => h) (Or.inl ⟨by rfl, ?_⟩) (by assumption) ?_
    rotate_left
    · intro w hSw; (try dsimp only at hSw); go_simp; first | done | with_reducible rfl
    simp only [Act.put, List.getElem_toArray, List.getElem_cons_zero, List.getElem_cons_succ, List.setIfInBounds_toArray, List.set_cons_zero, List.set_cons_succ]
    refine wpAnyH_take (i := 3) (v := ?_) rfl (by kernel_rfl) (by kernel_rfl) (by kernel_rfl) (fun _ _ _ h => h) (Or.inl ⟨by rfl, ?_⟩) (by assumption) ?_
    rotate_left
    · intro w hSw; (try dsimp only at hSw); go_simp; first | done | with_reducible rfl
    simp only [Act.put, List.getElem_toArray, List.getElem_cons_zero, List.getElem_cons_succ, List.setIfInBounds_toArray, List.set_cons_zero, List.set_cons_succ]
    refine wpAnyH_take (i := 4) (v := ?_) rfl (by kernel_rfl) (by kernel_rfl) (by kernel_rfl) (fun _ _ _ h => h) (Or.inl ⟨by rfl, ?_⟩) (by assumption) ?_
    rotate_left
    · intro w hSw; (try dsimp only at hSw); go_simp; first | done | with_reducible rfl
    simp only [Act.put, List.getElem_toArray, List.getElem_cons_zero, List.getElem_cons_succ, List.setIfInBounds_toArray, List.set_cons_zero, List.set_cons_succ]
    refine wpAnyH_call (i := 5) (v := .int .i64 (i : Int)) rfl (by kernel_rfl) (by kernel_rfl) (by kernel_rfl) (fun _ _ _ h => h) ⟨by rfl, ?_⟩ (by assumption) ?_
    · intro w hSw; refine ⟨_, _, by go_simp; exact ⟨rfl, rfl⟩, ?_⟩; exact HR.out.1 _
    simp only [Act.put, List.getElem_toArray, List.getElem_cons_zero, List.getElem_cons_succ, List.setIfInBounds_toArray, List.set_cons_zero, List.set_cons_succ]
    refine wpAnyH_take (i := 6) (v := ?_) rfl (by kernel_rfl) (by kernel_rfl) (by kernel_rfl) (fun _ _ _ h => h) (Or.inl ⟨by rfl, ?_⟩) (by assumption) ?_
    rotate_left
    · intro w hSw; (try dsimp only at hSw); go_simp; first | done | with_reducible rfl
    simp only [Act.put, List.getElem_toArray, List.getElem_cons_zero, List.getElem_cons_succ, List.setIfInBounds_toArray, List.set_cons_zero, List.set_cons_succ]
    refine wpAnyH_take (i := 7) (v := ?_) rfl (by kernel_rfl) (by kernel_rfl) (by kernel_rfl) (fun _ _ _ h => h) (Or.inl ⟨by rfl, ?_⟩) (by assumption) ?_
    rotate_left
    · intro w hSw; (try dsimp only at hSw); go_simp; first | done | with_reducible rfl
    simp only [Act.put, List.getElem_toArray, List.getElem_cons_zero, List.getElem_cons_succ, List.setIfInBounds_toArray, List.set_cons_zero, List.set_cons_succ]
    refine wpAnyH_take (i := 8) (v := ?_) rfl (by kernel_rfl) (by kernel_rfl) (by kernel_rfl) (fun _ _ _ h => h) (Or.inl ⟨by rfl, ?_⟩) (by assumption) ?_
    rotate_left
    · intro w hSw; (try dsimp only at hSw); go_simp; first | done | with_reducible rfl
    simp only [Act.put, List.getElem_toArray, List.getElem_cons_zero, List.getElem_cons_succ, List.setIfInBounds_toArray, List.set_cons_zero, List.set_cons_succ]
    refine wpAnyH_take (i := 9) (v := ?_) rfl (by kernel_rfl) (by kernel_rfl) (by kernel_rfl) (fun _ _ _ h => h) (Or.inl ⟨by rfl, ?_⟩) (by assumption) ?_
    rotate_left
    · intro w hSw; (try dsimp only at hSw); go_simp; first | done | with_reducible rfl
    simp only [Act.put, List.getElem_toArray, List.getElem_cons_zero, List.getElem_cons_succ, List.setIfInBounds_toArray, List.set_cons_zero, List.set_cons_succ]
    refine wpAnyH_take (i := 10) (v := ?_) rfl (by kernel_rfl) (by kernel_rfl) (by kernel_rfl) (fun _ _ _ h => h) (Or.inl ⟨by rfl, ?_⟩) (by assumption) ?_
    rotate_left
    · intro w hSw; (try dsimp only at hSw); go_simp; first | done | with_reducible rfl
    simp only [Act.put, List.getElem_toArray, List.getElem_cons_zero, List.getElem_cons_succ, List.setIfInBounds_toArray, List.set_cons_zero, List.set_cons_succ]
    refine wpAnyH_take (i := 11) (v := ?_) rfl (by kernel_rfl) (by kernel_rfl) (by kernel_rfl) (fun _ _ _ h => h) (Or.inl ⟨by rfl, ?_⟩) (by assumption) ?_
    rotate_left
    · intro w hSw; (try dsimp only at hSw); go_simp; first | done | with_reducible rfl
    simp only [Act.put, List.getElem_toArray, List.getElem_cons_zero, List.getElem_cons_succ, List.setIfInBounds_toArray, List.set_cons_zero, List.set_cons_succ]
    refine wpAnyH_take (i := 12) (v := ?_) rfl (by kernel_rfl) (by kernel_rfl) (by kernel_rfl) (fun _ _ _ h => h) (Or.inl ⟨by rfl, ?_⟩) (by assumption) ?_
    rotate_left
    · intro w hSw; (try dsimp only at hSw); go_simp; first | done | with_reducible rfl
    simp only [Act.put, List.getElem_toArray, List.getElem_cons_zero, List.getElem_cons_succ, List.setIfInBounds_toArray, List.set_cons_zero, List.set_cons_succ]
    refine wpAnyH_call (i := 13) (v := .int .i64 (j : Int)) rfl (by kernel_rfl) (by kernel_rfl) (by kernel_rfl) (fun _ _ _ h => h) ⟨by rfl, ?_⟩ (by assumption) ?_
    · intro w hSw; refine ⟨_, _, by go_simp; exact ⟨rfl, rfl⟩, ?_⟩; exact HR.out.2 _
    simp only [Act.put, List.getElem_toArray, List.getElem_cons_zero, List.getElem_cons_succ, List.setIfInBounds_toArray, List.set_cons_zero, List.set_cons_succ]
    refine wpAnyH_take (i := 14) (v := ?_) rfl (by kernel_rfl) (by kernel_rfl) (by kernel_rfl) (fun _ _ _ h => h) (Or.inl ⟨by rfl, ?_⟩) (by assumption) ?_
    rotate_left
    · intro w hSw; (try dsimp only at hSw); go_simp; first | done | with_reducible rfl
    simp only [Act.put, List.getElem_toArray, List.getElem_cons_zero, List.getElem_cons_succ, List.setIfInBounds_toArray, List.set_cons_zero, List.set_cons_succ]
    refine wpAnyH_take (i := 15) (v := ?_) rfl (by kernel_rfl) (by kernel_rfl) (by kernel_rfl) (fun _ _ _ h => h) (Or.inl ⟨by rfl, ?_⟩) (by assumption) ?_
    rotate_left
    · intro w hSw; (try dsimp only at hSw); go_simp; first | done | with_reducible rfl
    simp only [Act.put, List.getElem_toArray, List.getElem_cons_zero, List.getElem_cons_succ, List.setIfInBounds_toArray, List.set_cons_zero, List.set_cons_succ]
    refine wpAnyH_ready (rs := [16, 17]) (by kernel_rfl) (by simp) ?_
    refine AllReadyH.cons rfl (fun K hK => ?_) (AllReadyH.cons rfl (fun K hK => ?_) (AllReadyH.nil))
    · go_simp
      refine hK.out _ _ ?_ (fun hHeld => ?_)
      · exact HC.out _ (by repeat (first | exact Below.refl _ _ | refine below_dr ?_ | refine below_al ?_ | refine below_se ?_ (by omega)))
      clear hK K
      try simp only [Act.put, List.getElem_toArray, List.getElem_cons_zero, List.getElem_cons_succ, List.setIfInBounds_toArray, List.set_cons_zero, List.set_cons_succ]
      refine wpAnyH_ready (rs := [17]) (by kernel_rfl) (by simp) ?_
      refine AllReadyH.cons rfl (fun K hK => ?_) (AllReadyH.nil)
      go_simp
      refine hK.out _ _ ?_ (fun hHeld => ?_)
      · exact HC.out _ (by repeat (first | exact Below.refl _ _ | refine below_dr ?_ | refine below_al ?_ | refine below_se ?_ (by omega)))
      clear hK K
      try simp only [Act.put, List.getElem_toArray, List.getElem_cons_zero, List.getElem_cons_succ, List.setIfInBounds_toArray, List.set_cons_zero, List.set_cons_succ]
      refine wpAnyH_ready (rs := [18]) (by kernel_rfl) (by simp) ?_
      refine AllReadyH.cons rfl (fun K hK => ?_) (AllReadyH.nil)
      go_simp
      refine hK.out _ _ ?_ (fun hHeld => ?_)
      · exact HC.out _ (by repeat (first | exact Below.refl _ _ | refine below_dr ?_ | refine below_al ?_ | refine below_se ?_ (by omega)))
      clear hK K
      try simp only [Act.put, List.getElem_toArray, List.getElem_cons_zero, List.getElem_cons_succ, List.setIfInBounds_toArray, List.set_cons_zero, List.set_cons_succ]
      refine wpAnyH_ready (rs := [19]) (by kernel_rfl) (by simp) ?_
      refine AllReadyH.cons rfl (fun K hK => ?_) (AllReadyH.nil)
      go_simp
      refine hK.out _ _ ?_ (fun hHeld => ?_)
      · exact HC.out _ (by repeat (first | exact Below.refl _ _ | refine below_dr ?_ | refine below_al ?_ | refine below_se ?_ (by omega)))
      clear hK K
      try simp only [Act.put, List.getElem_toArray, List.getElem_cons_zero, List.getElem_cons_succ, List.setIfInBounds_toArray, List.set_cons_zero, List.set_cons_succ]
      refine wpAnyH_done (by kernel_rfl) ?_ _
      refine NoPanic.normal ?_
      go_wp2_with fail
      go_meet
      case rel =>
        have hs2 := H.out.2.1
        first
          | exact ⟨_, _, rfl, rfl, below_dr (below_al (below_al (Below.refl _ _))), (H.out.2.2.1.new2 H.out.2.2.2.1 H.out.2.2.2.2).dr.sub (by simp) (by simp; omega)⟩
          | exact ⟨_, _, rfl, rfl, below_dr (below_al (below_al (Below.refl _ _))), (H.out.2.2.1.new2 H.out.2.2.2.2 H.out.2.2.2.1).dr.sub (by simp) (by simp; omega)⟩
    · go_simp
      refine hK.out _ _ ?_ (fun hHeld => ?_)
      · exact HC.out _ (by repeat (first | exact Below.refl _ _ | refine below_dr ?_ | refine below_al ?_ | refine below_se ?_ (by omega)))
      clear hK K
      try simp only [Act.put, List.getElem_toArray, List.getElem_cons_zero, List.getElem_cons_succ, List.setIfInBounds_toArray, List.set_cons_zero, List.set_cons_succ]
      refine wpAnyH_ready (rs := [16]) (by kernel_rfl) (by simp) ?_
      refine AllReadyH.cons rfl (fun K hK => ?_) (AllReadyH.nil)
      go_simp
      refine hK.out _ _ ?_ (fun hHeld => ?_)
      · exact HC.out _ (by repeat (first | exact Below.refl _ _ | refine below_dr ?_ | refine below_al ?_ | refine below_se ?_ (by omega)))
      clear hK K
      try simp only [Act.put, List.getElem_toArray, List.getElem_cons_zero, List.getElem_cons_succ, List.setIfInBounds_toArray, List.set_cons_zero, List.set_cons_succ]
      refine wpAnyH_ready (rs := [18]) (by kernel_rfl) (by simp) ?_
      refine AllReadyH.cons rfl (fun K hK => ?_) (AllReadyH.nil)
      go_simp
      refine hK.out _ _ ?_ (fun hHeld => ?_)
      · exact HC.out _ (by repeat (first | exact Below.refl _ _ | refine below_dr ?_ | refine below_al ?_ | refine below_se ?_ (by omega)))
      clear hK K
      try simp only [Act.put, List.getElem_toArray, List.getElem_cons_zero, List.getElem_cons_succ, List.setIfInBounds_toArray, List.set_cons_zero, List.set_cons_succ]
      refine wpAnyH_ready (rs := [19]) (by kernel_rfl) (by simp) ?_
      refine AllReadyH.cons rfl (fun K hK => ?_) (AllReadyH.nil)
      go_simp
      refine hK.out _ _ ?_ (fun hHeld => ?_)
      · exact HC.out _ (by repeat (first | exact Below.refl _ _ | refine below_dr ?_ | refine below_al ?_ | refine below_se ?_ (by omega)))
      clear hK K
      try simp only [Act.put, List.getElem_toArray, List.getElem_cons_zero, List.getElem_cons_succ, List.setIfInBounds_toArray, List.set_cons_zero, List.set_cons_succ]
      refine wpAnyH_done (by kernel_rfl) ?_ _
      refine NoPanic.normal ?_
      go_wp2_with fail
      go_meet
      case rel =>
        have hs2 := H.out.2.1
        first
          | exact ⟨_, _, rfl, rfl, below_dr (below_al (below_al (Below.refl _ _))), (H.out.2.2.1.new2 H.out.2.2.2.1 H.out.2.2.2.2).dr.sub (by simp) (by simp; omega)⟩
          | exact ⟨_, _, rfl, rfl, below_dr (below_al (below_al (Below.refl _ _))), (H.out.2.2.1.new2 H.out.2.2.2.2 H.out.2.2.2.1).dr.sub (by simp) (by simp; omega)⟩
  case rest =>
    obtain ⟨kx, ky, rfl, rfl, hb, hS⟩ := hcut
    obtain ⟨W3, hW3⟩ : ∃ W3, W3 = wc := ⟨_, rfl⟩
    rw [← hW3] at hb hS ⊢
    clear hW3
    have y0 := (hb.block _ (lt_of_blk H.out.1)).trans H.out.1
    have ck : W3.cell? ⟨w.heap.size, 0, none⟩ = some (.int .i64 kd) := (cell_of_blk y0 0).trans rfl
    have cn : W3.cell? ⟨w.heap.size, 3, none⟩ = some (.int .i64 n) := (cell_of_blk y0 3).trans rfl
    have cx := hS.cell 0 rfl
    have cy := hS.cell 1 rfl
    have S := Sealed.mk hS
    clear y0 hb hS HC HR H
    by_cases k0 : kd = 0
    · subst k0
      rw [if_pos rfl] at hr
      subst hr
      go_wp2_with (go_at_call 21; go_must ((with_reducible refine (Of_one hn _).mono ?_); rintro e w4 ⟨p4, rfl, hb4, hn4⟩; replace S := Sealed.mk (S.out.res hb4 hn4); have c4 := S.out.cell 2 rfl; have f4 := S.out.frozen 2 rfl; clear hb4 hn4))
      have S5 := S.out.put 2 rfl (S.out.num 0 rfl)
      have c5 := S5.cell 2 rfl
      refine bodyPost_ret (v := .tuple #[.agg #[.pointer p4], .int .i64 0]) (by simp [results, Try.results80, go_sem, c5]) rfl ?_
      exact ⟨p4, rfl, S5.below, S5.cnum 2 rfl⟩
    · by_cases k1 : kd = 1
      · subst k1
        rw [if_neg (by decide)] at hr
        rw [if_pos rfl] at hr
        subst hr
        go_wp2_with (go_at_call 32; go_must ((with_reducible refine (Add_res (S.out.cnum 0 rfl) (S.out.cnum 1 rfl)).mono ?_); rintro e w4 ⟨p4, rfl, hb4, hn4⟩; replace S := Sealed.mk (S.out.res hb4 hn4); have c4 := S.out.cell 2 rfl; have f4 := S.out.frozen 2 rfl; clear hb4 hn4))
        have S5 := S.out.put 2 rfl (S.out.num 0 rfl)
        have c5 := S5.cell 2 rfl
        refine bodyPost_ret (v := .tuple #[.agg #[.pointer p4], .int .i64 (gv (x + y)).2]) (by simp [results, Try.results80, go_sem, c5]) rfl ?_
        exact ⟨p4, rfl, S5.below, S5.cnum 2 rfl⟩
      · by_cases k2 : kd = 2
        · subst k2
          rw [if_neg (by decide)] at hr
          rw [if_neg (by decide)] at hr
          rw [if_pos rfl] at hr
          subst hr
          go_wp2_with (go_at_call 33; go_must ((with_reducible refine (Sub_res (S.out.cnum 0 rfl) (S.out.cnum 1 rfl)).mono ?_); rintro e w4 ⟨p4, rfl, hb4, hn4⟩; replace S := Sealed.mk (S.out.res hb4 hn4); have c4 := S.out.cell 2 rfl; have f4 := S.out.frozen 2 rfl; clear hb4 hn4))
          have S5 := S.out.put 2 rfl (S.out.num 0 rfl)
          have c5 := S5.cell 2 rfl
          refine bodyPost_ret (v := .tuple #[.agg #[.pointer p4], .int .i64 (gv (x - y)).2]) (by simp [results, Try.results80, go_sem, c5]) rfl ?_
          exact ⟨p4, rfl, S5.below, S5.cnum 2 rfl⟩
        · by_cases k3 : kd = 3
          · subst k3
            rw [if_neg (by decide)] at hr
            rw [if_neg (by decide)] at hr
            rw [if_neg (by decide)] at hr
            rw [if_pos rfl] at hr
            subst hr
            go_wp2_with (go_at_call 39; go_must ((with_reducible refine (Neg_one (S.out.cnum 0 rfl)).mono ?_); rintro e w4 ⟨p4, rfl, hb4, hn4⟩; replace S := Sealed.mk (S.out.res hb4 hn4); have c4 := S.out.cell 2 rfl; have f4 := S.out.frozen 2 rfl; clear hb4 hn4))
            have S5 := S.out.put 2 rfl (S.out.num 0 rfl)
            have c5 := S5.cell 2 rfl
            refine bodyPost_ret (v := .tuple #[.agg #[.pointer p4], .int .i64 0]) (by simp [results, Try.results80, go_sem, c5]) rfl ?_
            exact ⟨p4, rfl, S5.below, S5.cnum 2 rfl⟩
          · by_cases k4 : kd = 4
            · subst k4
              rw [if_neg (by decide)] at hr
              rw [if_neg (by decide)] at hr
              rw [if_neg (by decide)] at hr
              rw [if_neg (by decide)] at hr
              rw [if_pos rfl] at hr
              subst hr
              go_wp2_with (go_at_call 25; go_must ((with_reducible refine (Shift_res (S.out.cnum 0 rfl) (S.out.cnum 1 rfl)).mono ?_); rintro e w4 ⟨p4, rfl, hb4, hn4⟩; replace S := Sealed.mk (S.out.res hb4 hn4); have c4 := S.out.cell 2 rfl; have f4 := S.out.frozen 2 rfl; clear hb4 hn4))
              have S5 := S.out.put 2 rfl (S.out.num 0 rfl)
              have c5 := S5.cell 2 rfl
              refine bodyPost_ret (v := .tuple #[.agg #[.pointer p4], .int .i64 (shiftR x y).2]) (by simp [results, Try.results80, go_sem, c5]) rfl ?_
              exact ⟨p4, rfl, S5.below, S5.cnum 2 rfl⟩
            · by_cases k5 : kd = 5
              · subst k5
                rw [if_neg (by decide)] at hr
                rw [if_neg (by decide)] at hr
                rw [if_neg (by decide)] at hr
                rw [if_neg (by decide)] at hr
                rw [if_neg (by decide)] at hr
                rw [if_pos rfl] at hr
                subst hr
                go_wp2_with (go_at_call 34; go_must ((with_reducible refine (Mul_res (S.out.cnum 0 rfl) (S.out.cnum 1 rfl)).mono ?_); rintro e w4 ⟨p4, rfl, hb4, hn4⟩; replace S := Sealed.mk (S.out.res hb4 hn4); have c4 := S.out.cell 2 rfl; have f4 := S.out.frozen 2 rfl; clear hb4 hn4))
                have S5 := S.out.put 2 rfl (S.out.num 0 rfl)
                have c5 := S5.cell 2 rfl
                refine bodyPost_ret (v := .tuple #[.agg #[.pointer p4], .int .i64 (mulR x y).2]) (by simp [results, Try.results80, go_sem, c5]) rfl ?_
                exact ⟨p4, rfl, S5.below, S5.cnum 2 rfl⟩
              · by_cases k6 : kd = 6
                · subst k6
                  rw [if_neg (by decide)] at hr
                  rw [if_neg (by decide)] at hr
                  rw [if_neg (by decide)] at hr
                  rw [if_neg (by decide)] at hr
                  rw [if_neg (by decide)] at hr
                  rw [if_neg (by decide)] at hr
                  rw [if_pos rfl] at hr
                  subst hr
                  have hof1 := fun W => Of_one (n := 1) (by unfold Is64; decide) W
                  have HOF := Sealed.mk hof1; clear hof1
                  go_upto_region 16 with fail
                  go_region_held3 (fun W => W.cell? ⟨kx, 0, none⟩ = some (.pointer p))
                    (first | exact cx | exact S.out.cell 0 rfl | exact (S.out.put 2 rfl (S.out.num 0 rfl)).cell 0 rfl)
                    (first
                      | (go_at_call 21; go_must ((with_reducible refine (HOF.out _).mono ?_); rintro e w4 ⟨p4, rfl, hb4, hn4⟩; replace S := Sealed.mk (S.out.dr.res hb4 hn4); clear hb4 hn4))
                      | (go_at_call 25; go_must ((with_reducible refine (Shift_res (S.out.num 0 rfl) (S.out.cnum 0 rfl)).mono ?_); rintro e w5 ⟨p5, rfl, hb5, hn5⟩; replace S := Sealed.mk (S.out.res hb5 hn5); have c4 := S.out.cell 2 rfl; have f4 := S.out.frozen 2 rfl; clear hb5 hn5)))
                  go_wp2_with fail
                  have S5 := S.out.put 2 rfl (S.out.num 0 rfl)
                  have c5 := S5.cell 2 rfl
                  refine bodyPost_ret (v := .tuple #[.agg #[.pointer p5], .int .i64 (shiftR 1 x).2]) (by simp [results, Try.results80, go_sem, c5]) rfl ?_
                  exact ⟨p5, rfl, S5.below, S5.cnum 2 rfl⟩
                · rw [if_neg k0, if_neg k1, if_neg k2, if_neg k3, if_neg k4, if_neg k5, if_neg k6] at hr
                  subst hr
                  go_wp2_with (first
                    | (go_at_call 103; go_must ((with_reducible refine (lawTerms_any (S.out.cnum 0 rfl) (S.out.cnum 1 rfl)).mono ?_); rintro e w4 ⟨a4, c4, ts, rfl, ht4, hb4⟩; replace S := Sealed.mk (S.out.adv hb4); have hta := ht4.at_ (by rw [termsL_length]; decide); have HT4 := Sealed.mk hta; clear hta hb4 ht4))
                    | (go_at_call 27; go_must ((with_reducible refine (Sum_res HT4.out).mono ?_); rintro e w5 ⟨p4, rfl, hb4, hn4⟩; replace S := Sealed.mk (S.out.res hb4 hn4); have c4 := S.out.cell 2 rfl; have f4 := S.out.frozen 2 rfl; clear hb4 hn4)))
                  have S5 := S.out.put 2 rfl (S.out.num 0 rfl)
                  have c5 := S5.cell 2 rfl
                  refine bodyPost_ret (v := .tuple #[.agg #[.pointer p4], .int .i64 (sumR (termsL x y n)).2]) (by simp [results, Try.results80, go_sem, c5]) rfl ?_
                  exact ⟨p4, rfl, S5.below, S5.cnum 2 rfl⟩
end Go.Proofs.Ytgchfbfgjanaiaa
