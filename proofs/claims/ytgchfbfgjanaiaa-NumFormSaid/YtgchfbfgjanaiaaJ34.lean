/-
  bytes tell numbers apart: plain
  what the calls of law01's awake owe
  when a number is an int64: plain
  (num.N).Int's closure
  (num.N).Int
  cells that hold numbers; what num's calls answer, as pairs
-/
import Derived.Test.YtgchfbfgjanaiaaJ31
import Derived.Test.YtgchfbfgjanaiaaJ20
import Derived.Test.YtgchfbfgjanaiaaJ24
import Derived.Test.YtgchfbfgjanaiaaJ26
import Derived.Test.YtgchfbfgjanaiaaJ27
import Derived.Test.YtgchfbfgjanaiaaJ30
import Derived.Test.YtgchfbfgjanaiaaJ33
import Derived.Test.YtgchfbfgjanaiaaJ04
import Derived.Deep.LoopGhost
import Derived.Deep.DeepCutAuto
import Derived.Deep.QuietTactic
import Derived.BigQuiet
import Derived.Test.YtgchfbfgjanaiaaJ22
import Derived.Deep.RegionHeld3
import Derived.Laws.OwnMore
set_option linter.unusedSimpArgs false
set_option linter.unusedVariables false
namespace Go.Proofs.Ytgchfbfgjanaiaa
open Go.RowKit Sr
theorem bytesN_inj {x y : Int} (hx : Allowed x) (hy : Allowed y) (h : bytesN x = bytesN y) : x = y := by
  have hex : ∃ z, Allowed z ∧ bytesN z = bytesN y := ⟨y, hy, rfl⟩
  have key : ∀ k, k ≤ weight y → ∃ nums left, nums.length = k ∧ Tr (bytesN y) (weight y) nums left := by
    intro k
    induction k with
    | zero =>
      intro _
      have h0 := tr_zero (bytesN y)
      rw [(h0 y hy rfl).1] at h0
      exact ⟨[], _, rfl, h0⟩
    | succ k ih =>
      intro hk
      obtain ⟨nums, left, hl, ht⟩ := ih (by omega)
      obtain ⟨hp, -⟩ := ht.part (by omega)
      have inner : ∀ j, j ≤ (two2 left).1.toNat → ∃ tl l', TrK (bytesN y) (weight y) nums (two2 left).1.toNat j tl l' := by
        intro j
        induction j with
        | zero => intro _; exact ⟨_, _, hp⟩
        | succ j ihj =>
          intro hj
          obtain ⟨tl, l', hk'⟩ := ihj (by omega)
          obtain ⟨s, a, q, l'', z, rfl, -, -, hq, hz⟩ := hk'.term (by omega) hex
          exact ⟨_, _, hk'.next (by omega) (q := q) (by rw [hq]) hz⟩
      obtain ⟨tl, l', hk'⟩ := inner _ (Nat.le_refl _)
      exact ⟨_, _, by simp [hl], hk'.done.2⟩
  obtain ⟨nums, left, hl, ht⟩ := key _ (Nat.le_refl _)
  have hw : 1 ≤ weight y := by unfold weight; omega
  obtain ⟨z, hz⟩ : ∃ z, nums[weight y - 1]? = some z := ⟨_, List.getElem?_eq_getElem (by omega)⟩
  rw [← ht.last hl hx h hz, ht.last hl hy rfl hz]
end Go.Proofs.Ytgchfbfgjanaiaa

namespace Go.Proofs.Ytgchfbfgjanaiaa
open Go.RowKit Sr
def OneOut (w : World) (x : Int) (e : Ending) (w' : World) : Prop :=
  ∃ p, e = .returned (.tuple #[.agg #[.pointer p], .int .i64 0]) ∧ Below w.heap.size w w' ∧ NumIs w' (.agg #[.pointer p]) x
theorem AddOut.one {w w' : World} {z : Int} {e : Ending} (h : AddOut w z e w') (hz : Allowed z) : OneOut w z e w' := by
  obtain ⟨p, er, rfl, hb, ⟨-, rfl, hn⟩ | ⟨h, -⟩⟩ := h
  · exact ⟨p, rfl, hb, hn⟩
  · exact absurd hz h
theorem shift_one {w : World} {u v : Value} {n : Nat} (hx : NumIs w u 1) (hy : NumIs w v (n : Int)) (ha : Allowed (2 ^ n)) : Calls Try.prog 25 #[u, v] w (OneOut w (2 ^ n)) :=
  (Shift_any hx hy).mono fun e w' h => by
    obtain ⟨p, er, rfl, hb, h⟩ := h
    have hs : shl 1 (n : Int) = 2 ^ n := by rw [shl_nat]; simp
    rw [hs] at h
    rcases h with ⟨-, ⟨-, rfl, hn⟩ | ⟨h, -⟩⟩ | ⟨h, -⟩
    · exact ⟨p, rfl, hb, hn⟩
    · exact absurd ha h
    · exact absurd (whole_nat _ _) h
theorem mul_one' {w : World} {u v : Value} (hx : NumIs w u 3) (hy : NumIs w v 5) : Calls Try.prog 34 #[u, v] w (OneOut w 15) :=
  (Mul_any hx hy).mono fun e w' h => by
    obtain ⟨p, er, rfl, hb, h⟩ := h
    have h1 : wl 3 ≤ 3 := form_length_nat 3
    have h2 : wl 5 ≤ 5 := form_length_nat 5
    have h3 := Nat.mul_le_mul h1 h2
    rcases h with ⟨-, ⟨-, rfl, hn⟩ | ⟨h, -⟩⟩ | ⟨h, -⟩
    · exact ⟨p, rfl, hb, hn⟩
    · exact absurd (allowed_small (by decide)) h
    · exact absurd (by omega) h
theorem sum_one {w : World} {v : Value} (h : TermsAt w v [(false, 5), (true, 4)]) : Calls Try.prog 27 #[v] w (OneOut w 16) :=
  (Sum_any h).mono fun e w' h => by
    obtain ⟨p, er, rfl, hb, h⟩ := h
    have hs : termsV [(false, 5), (true, 4)] = 16 := by decide
    rw [hs] at h
    rcases h with ⟨⟨t, ht, h⟩, -⟩ | ⟨-, h, -⟩ | ⟨-, -, ⟨-, rfl, hn⟩ | ⟨h, -⟩⟩
    · simp at ht; rcases ht with rfl | rfl <;> simp at h
    · simp at h
    · exact ⟨p, rfl, hb, hn⟩
    · exact absurd (allowed_small (by decide)) h
theorem load_one {w : World} {v : Value} {x : Int} (hx : Allowed x) (h : BytesAt w v (bytesN x)) : Calls Try.prog 18 #[v] w (OneOut w x) :=
  (Load_any h).mono fun e w' h => by
    obtain ⟨p, er, rfl, hb, ⟨y, hy, he, rfl, hn⟩ | ⟨h, -⟩⟩ := h
    · rw [bytesN_inj hy hx he] at hn
      exact ⟨p, rfl, hb, hn⟩
    · exact absurd ⟨x, hx, rfl⟩ h
end Go.Proofs.Ytgchfbfgjanaiaa

namespace Go.Proofs.Ytgchfbfgjanaiaa
open Go.RowKit Sr
def Is64 (x : Int) : Prop := -9223372036854775808 ≤ x ∧ x ≤ 9223372036854775807
instance (x : Int) : Decidable (Is64 x) := by unfold Is64; infer_instance
def val64 (x : Int) : Int := if Is64 x then x else 64
def out64 (l : List T) (i : Nat) (t : T) (e : Int) : Prop := 63 < e ∨ (i = 0 ∧ e = 63 ∧ 1 < l.length ∧ (l.getD 1 (false, 0)).1 = t.1) ∨ (e = 63 ∧ l.length = 1 ∧ t.1 = false)
theorem val64_nat {e : Nat} (h : e ≤ 63) : val64 (e : Int) = e := by
  have : Is64 (e : Int) := by unfold Is64; omega
  unfold val64; rw [if_pos this]
theorem val64_big {e : Nat} (h : 63 < e) : 63 < val64 (e : Int) := by unfold val64; split <;> omega
theorem pow63 : (2 : Int) ^ 63 = 9223372036854775808 := by decide
theorem pow64 : (2 : Int) ^ 64 = 18446744073709551616 := by decide
theorem pow65 : (2 : Int) ^ 65 = 36893488147419103232 := by decide
theorem out64_not {x : Int} {i : Nat} {t : T} (ht : (form x)[i]? = some t) (h : out64 (form x) i t (val64 (t.2 : Int))) : ¬ Is64 x := by
  intro h6
  have hx : x.natAbs ≤ 2 ^ 63 := by unfold Is64 at h6; omega
  have he := exps_small hx (mem_exps.2 ⟨t, List.mem_of_getElem? ht, rfl⟩)
  rw [val64_nat he] at h
  obtain ⟨n, hu⟩ := form_form x
  have hv := val_form x
  unfold Is64 at h6
  rcases h with h | ⟨rfl, h1, h2, h3⟩ | ⟨h1, h2, h3⟩
  · omega
  · have h1' : t.2 = 63 := by omega
    cases hf : form x with
    | nil => rw [hf] at h2; simp at h2
    | cons s l =>
      rw [hf] at ht hu hv h2 h3
      have hst : s = t := by simpa using ht
      subst hst
      cases l with
      | nil => simp at h2
      | cons r l =>
        have hr : r.1 = s.1 := by simpa using h3
        obtain ⟨u1, u2, u3⟩ := hu
        have hp := val_pos u2
        have hpp := two_pow_pos (r.2 + 1)
        have hval : val (s :: r :: l) = tv s + val (r :: l) := rfl
        rw [hval] at hv
        have htv : tv s = if s.1 then -9223372036854775808 else 9223372036854775808 := by unfold tv; rw [h1', pow63]
        cases hs : s.1
        · rw [hs] at hr htv
          simp at htv
          have := hp.1 hr
          omega
        · rw [hs] at hr htv
          simp at htv
          have := hp.2 hr
          omega
  · have h1' : t.2 = 63 := by omega
    cases hf : form x with
    | nil => rw [hf] at h2; simp at h2
    | cons s l =>
      rw [hf] at ht hv h2
      have hl : l = [] := by simpa using h2
      subst hl
      have hi : i = 0 := by have := (List.getElem?_eq_some_iff.1 ht).1; simp at this; omega
      subst hi
      have hst : s = t := by simpa using ht
      subst hst
      have htv : tv s = 9223372036854775808 := by unfold tv; rw [h1', pow63, h3]; simp
      simp [val, htv] at hv
      omega
theorem out64_is {x : Int} (h : ∀ i t, (form x)[i]? = some t → ¬ out64 (form x) i t (val64 (t.2 : Int))) : Is64 x := by
  obtain ⟨n, hu⟩ := form_form x
  have hv := val_form x
  unfold Is64
  cases hf : form x with
  | nil => rw [hf] at hv; simp [val] at hv; omega
  | cons s l =>
    have h0 := h 0 s (by rw [hf]; rfl)
    rw [hf] at hu hv h0
    obtain ⟨u1, u2, u3⟩ := hu
    have he : s.2 ≤ 63 := by
      by_cases hb : s.2 ≤ 63
      · exact hb
      · exact absurd (.inl (val64_big (by omega))) h0
    rw [val64_nat he] at h0
    have hval : val (s :: l) = tv s + val l := rfl
    rw [hval] at hv
    cases l with
    | nil =>
      simp [val] at hv
      by_cases h63 : s.2 = 63
      · have hs : s.1 = true := by
          cases hs : s.1
          · exact absurd (.inr (.inr ⟨by omega, rfl, hs⟩)) h0
          · rfl
        unfold tv at hv
        rw [hs, h63, pow63] at hv
        simp at hv
        omega
      · have hm := pow_mono (show s.2 ≤ 62 by omega)
        have hp := two_pow_pos s.2
        have h62 : (2 : Int) ^ 62 = 4611686018427387904 := by decide
        unfold tv at hv
        split at hv <;> omega
    | cons r l =>
      have h1s := u3 (by simp)
      have hb := under_bound _ _ u2
      have e1 : s.2 - 1 + 1 = s.2 := by omega
      rw [e1] at hb
      have hp := two_pow_pos s.2
      by_cases h63 : s.2 = 63
      · have hne : r.1 ≠ s.1 := fun e => h0 (.inr (.inl ⟨rfl, by omega, by simp, by simpa using e⟩))
        have hpr := val_pos u2
        have hpp := two_pow_pos (r.2 + 1)
        rw [h63, pow63] at hb
        unfold tv at hv
        rw [h63, pow63] at hv
        cases hs : s.1
        · rw [hs] at hne hv
          simp at hv
          have := hpr.2 (by simpa using hne)
          omega
        · rw [hs] at hne hv
          simp at hv
          have := hpr.1 (by simpa using hne)
          omega
      · have hm := pow_mono (show s.2 ≤ 62 by omega)
        have h62 : (2 : Int) ^ 62 = 4611686018427387904 := by decide
        unfold tv at hv
        split at hv <;> omega
theorem val_take_snoc {l : List T} {k : Nat} {t : T} (h : l[k]? = some t) : val (l.take (k + 1)) = val (l.take k) + tv t := by
  rw [List.take_add_one, h, val_append]
  simp [val]
end Go.Proofs.Ytgchfbfgjanaiaa

namespace Go.Proofs.Ytgchfbfgjanaiaa
open Go.RowKit Sr
theorem wrap_add64 (a b : Int) : wrap64 (wrap64 a + wrap64 b) = wrap64 (a + b) := by unfold wrap64; omega
theorem wrap_sub64 (a b : Int) : wrap64 (wrap64 a - wrap64 b) = wrap64 (a + -b) := by unfold wrap64; omega
set_option maxRecDepth 100000 in
set_option maxHeartbeats 4000000 in
theorem intC_any {w : World} {vs : List Int} {y : Int} {v : Value} (hl : TL w v (enc vs y)) {bv vb np : Nat} (hbv : w.cell? ⟨bv, 0, none⟩ = some (.slice (some ⟨vb, 0, none⟩) np np))
    (hval : ∀ e ∈ exps y, vs.idxOf (e : Int) < np ∧ w.cell? ⟨vb, vs.idxOf (e : Int), none⟩ = some (.int .i64 (val64 (e : Int)))) :
    Calls Try.prog 85 #[v, .pointer (some ⟨bv, 0, none⟩)] w fun e w' => e = .returned (.tuple #[.int .i64 (val64 y), .bool (decide (Is64 y))]) ∧ Below w.heap.size w w' := by
  obtain ⟨a, n, c, rfl⟩ := hl.slice
  obtain ⟨hn, hn1, hnc, -⟩ := hl.cells
  have hnE : n = (form y).length := by rw [hn]; simp [enc]
  clear hn
  have HNE := Sealed.mk hnE; clear hnE
  have HL := Sealed.mk hl; clear hl
  have HV := Sealed.mk (And.intro hbv hval); clear hbv hval
  go_enter Try.func85, Try.ntmps85
  go_wp2_with fail
  go_loopg [5, 11] n (fun j sv iv W => ∃ k : Nat, j = n - k ∧ k ≤ n ∧ iv = .int .i64 (k : Int) ∧ sv = .int .i64 (wrap64 (val ((form y).take k))) ∧ Below w.heap.size w W ∧
    ∀ i t, i < k → (form y)[i]? = some t → ¬ out64 (form y) i t (val64 (t.2 : Int)))
  case atStart => exact ⟨0, rfl, Nat.zero_le _, rfl, by simp [val, wrap64], Below.refl _ _, fun i t h => by omega⟩
  case round =>
    obtain ⟨k, rfl, hk, rfl, rfl, hb, hno⟩ := hrel
    by_cases hkn : k < n
    · obtain ⟨⟨m, e⟩, ht⟩ : ∃ t, (form y)[k]? = some t := ⟨_, List.getElem?_eq_getElem (by have := HNE.out; omega)⟩
      have hey : e ∈ exps y := mem_exps.2 ⟨_, List.mem_of_getElem? ht, rfl⟩
      obtain ⟨hq1, hq2⟩ := HV.out.2 e hey
      obtain ⟨q, hq⟩ : ∃ q : Nat, q = vs.idxOf (e : Int) := ⟨_, rfl⟩
      rw [← hq] at hq1 hq2
      obtain ⟨ve, hve⟩ : ∃ ve, ve = val64 (e : Int) := ⟨_, rfl⟩
      rw [← hve] at hq2
      have hte : (enc vs y)[k]? = some (m, q) := by simp [enc, ht, hq]
      obtain ⟨-, -, -, hcell⟩ := (HL.out.below hb).cells
      obtain ⟨bb, oo, rfl, h1, h2⟩ := hcell k _ hte
      obtain ⟨m1, hm1⟩ : ∃ m1, m1 = ((form y).getD 1 (false, 0)).1 := ⟨_, rfl⟩
      have hm1c : 1 < n → wr.cell? ⟨bb, oo + 2, none⟩ = some (.bool m1) := fun h1n => by
        obtain ⟨t1, ht1⟩ : ∃ t, (form y)[1]? = some t := ⟨_, List.getElem?_eq_getElem (by have := HNE.out; omega)⟩
        have hte1 : (enc vs y)[1]? = some (t1.1, vs.idxOf (t1.2 : Int)) := by simp [enc, ht1]
        obtain ⟨b', o', hh, g1, -⟩ := hcell 1 _ hte1
        obtain ⟨rfl, rfl⟩ : bb = b' ∧ oo = o' := by
          have := Option.some.inj hh
          simp only [Addr.mk.injEq] at this
          exact ⟨this.1, this.2.1⟩
        rw [hm1, List.getD_eq_getElem?_getD, ht1]
        exact g1
      dsimp only at h1 h2
      obtain ⟨W1, hW1⟩ : ∃ W1, W1 = wr.alloc (.cells #[.bool m, .int .i64 (q : Int)] 98) := ⟨_, rfl⟩
      have hb1 : Below w.heap.size w W1 := by rw [hW1]; exact hb.alloc hb.size _
      have hx1 : Ext noB wr W1 := by rw [hW1]; exact (Ext.refl noB wr).alloc _
      have keep : ∀ {b i : Nat} {u : Value}, wr.cell? ⟨b, i, none⟩ = some u → W1.cell? ⟨b, i, none⟩ = some u := fun {b i u} h => (cell_same (hx1.block b (lt_of_cell h) fun e => e) i).trans h
      have kb : W1.heap[wr.heap.size]? = some (.cells #[.bool m, .int .i64 (q : Int)] 98 (0, 0)) := by rw [hW1]; exact blk_alloc _ _
      have k0 : W1.cell? ⟨wr.heap.size, 0, none⟩ = some (.bool m) := (cell_of_blk kb 0).trans rfl
      have k1 : W1.cell? ⟨wr.heap.size, 1, none⟩ = some (.int .i64 (q : Int)) := (cell_of_blk kb 1).trans rfl
      have v0 : W1.cell? ⟨bv, 0, none⟩ = some (.slice (some ⟨vb, 0, none⟩) np np) := keep ((cell_same (hb.block bv (lt_of_cell HV.out.1)) 0).trans HV.out.1)
      have v1 : W1.cell? ⟨vb, q, none⟩ = some (.int .i64 ve) := keep ((cell_same (hb.block vb (lt_of_cell hq2)) q).trans hq2)
      have hm1c' := fun h => keep (hm1c h)
      have HT := Sealed.mk (And.intro ht (And.intro hve hm1)); clear ht hve hm1 hte hey hq hq2
      have HB := Sealed.mk (And.intro hb (And.intro hb1 hno)); clear hb hb1 hno hcell hm1c kb
      have HM1 := Sealed.mk hm1c'; clear hm1c'
      clear keep hx1
      go_upto_region 5 with fail
      rw [← hW1]
      have HW1 := Sealed.mk hW1; clear hW1
      go_upto_region 6 with fail
      go_cut [58] (fun v58 wx => (∃ nq, wx = W1.drewN nq) ∧ v58 = .bool (decide (63 < ve ∨ (k = 0 ∧ ve = 63 ∧ 1 < n ∧ m1 = m) ∨ (ve = 63 ∧ n = 1 ∧ m = false))))
      case first =>
        by_cases c1 : 63 < ve
        · have d1 : decide (63 < ve) = true := by simp [c1]
          have C := Sealed.mk c1; clear c1
          go_quiet (fail)
          go_wp2_with fail
          go_meet
          case rel => exact ⟨⟨nq, rfl⟩, by simp [C.out]⟩
        · have d1 : decide (63 < ve) = false := by simp [c1]
          by_cases c2 : ve = 63
          · have d2 : (ve == 63) = true := by simp [c2]
            by_cases c3 : 1 < n
            · have d3 : decide ((1 : Int) < (n : Int)) = true := by simp; omega
              have d3' : ((n : Int) == 1) = false := by simp; omega
              have d3n : (1 : Int) < (n : Int) := by omega
              have hm1f := HM1.out c3
              by_cases c4 : k = 0
              · have d4 : ((k : Int) == 0) = true := by simp [c4]
                have C := Sealed.mk (And.intro c1 (And.intro c2 (And.intro c3 c4))); clear c1 c2 c3 c4
                cases m <;> cases m1 <;>
                  (go_quiet (fail)
                   go_wp2_with fail
                   go_meet
                   exact ⟨⟨nq, rfl⟩, by simp [C.out.1, C.out.2.1, C.out.2.2.1, C.out.2.2.2]; try omega⟩)
              · have d4 : ((k : Int) == 0) = false := by simp; omega
                have C := Sealed.mk (And.intro c1 (And.intro c2 (And.intro c3 c4))); clear c1 c2 c3 c4
                go_quiet (fail)
                go_wp2_with fail
                go_meet
                case rel => exact ⟨⟨nq, rfl⟩, by have h3 := C.out.2.2.1; have h4 := C.out.2.2.2; have h1 := C.out.1; have h5 : ¬ n = 1 := (by omega); simp [h1, h4, h5]⟩
            · have d3 : decide ((1 : Int) < (n : Int)) = false := by simp; omega
              have d3' : ((n : Int) == 1) = true := by simp; omega
              have d4 : ((k : Int) == 0) = true := by simp; omega
              have C := Sealed.mk (And.intro c1 (And.intro c2 c3)); clear c1 c2 c3
              cases m <;>
                (go_quiet (fail)
                 go_wp2_with fail
                 go_meet
                 exact ⟨⟨nq, rfl⟩, by have h1 := C.out.1; have h2 := C.out.2.1; have h3 := C.out.2.2; have h5 : n = 1 := (by omega); simp [h2, h5]⟩)
          · have d2 : (ve == 63) = false := by simp [c2]
            by_cases c4 : k = 0
            · have d4 : ((k : Int) == 0) = true := by simp [c4]
              have C := Sealed.mk (And.intro c1 c2); clear c1 c2 c4
              go_quiet (fail)
              go_wp2_with fail
              go_meet
              case rel => exact ⟨⟨nq, rfl⟩, by simp [C.out.1, C.out.2]⟩
            · have d4 : ((k : Int) == 0) = false := by simp; omega
              have C := Sealed.mk (And.intro c1 c2); clear c1 c2 c4
              go_quiet (fail)
              go_wp2_with fail
              go_meet
              case rel => exact ⟨⟨nq, rfl⟩, by simp [C.out.1, C.out.2]⟩
      case rest =>
        obtain ⟨⟨nq, rfl⟩, rfl⟩ := hcut
        obtain ⟨W2, hW2⟩ : ∃ W2, W2 = W1.drewN nq := ⟨_, rfl⟩
        have hb2 : Below w.heap.size w W2 := by rw [hW2]; exact ⟨HB.out.2.1.os, HB.out.2.1.tape, HB.out.2.1.output, HB.out.2.1.size, HB.out.2.1.block⟩
        have k0' : W2.cell? ⟨wr.heap.size, 0, none⟩ = some (.bool m) := by rw [hW2]; exact k0
        rw [← hW2]
        clear hW2 k0 k1 v0 v1
        have HB2 := Sealed.mk hb2; clear hb2
        obtain ⟨ht, hve, hm1⟩ := HT.out
        have hout : (63 < ve ∨ (k = 0 ∧ ve = 63 ∧ 1 < n ∧ m1 = m) ∨ (ve = 63 ∧ n = 1 ∧ m = false)) ↔ out64 (form y) k (m, e) ve := by
          unfold out64
          rw [← hm1, ← HNE.out]
        by_cases ho : (63 < ve ∨ (k = 0 ∧ ve = 63 ∧ 1 < n ∧ m1 = m) ∨ (ve = 63 ∧ n = 1 ∧ m = false))
        · have hd : decide (63 < ve ∨ (k = 0 ∧ ve = 63 ∧ 1 < n ∧ m1 = m) ∨ (ve = 63 ∧ n = 1 ∧ m = false)) = true := by simp [ho]
          have hnot : ¬ Is64 y := out64_not ht (by rw [← hve]; exact hout.1 ho)
          have HN := Sealed.mk hnot; clear hnot
          rw [hd]
          clear hd ho hout ht hve hm1 h1 h2
          go_wp2_with fail
          refine bodyPost_ret (v := .tuple #[.int .i64 64, .bool false]) (by simp [results, Try.results85, go_sem]) rfl ⟨?_, HB2.out⟩
          have hv : val64 y = 64 := by unfold val64; rw [if_neg HN.out]
          rw [hv, decide_eq_false HN.out]
        · have hd : decide (63 < ve ∨ (k = 0 ∧ ve = 63 ∧ 1 < n ∧ m1 = m) ∨ (ve = 63 ∧ n = 1 ∧ m = false)) = false := by simp only [ho, decide_false]
          have hnot : ¬ out64 (form y) k (m, e) (val64 (e : Int)) := by rw [← hve]; exact fun h => ho (hout.2 h)
          have hve63 : ve ≤ 63 := by
            rcases Int.lt_or_le 63 ve with h | h
            · exact absurd (.inl h) ho
            · exact h
          have hee : ve = (e : Int) := by
            by_cases he : e ≤ 63
            · rw [hve]; exact val64_nat he
            · have := val64_big (e := e) (by omega)
              omega
          have hno' : ∀ i t, i < k + 1 → (form y)[i]? = some t → ¬ out64 (form y) i t (val64 (t.2 : Int)) := fun i t hi hit => by
            by_cases hik : i < k
            · exact HB.out.2.2 i t hik hit
            · have : i = k := by omega
              subst this
              rw [ht] at hit
              obtain rfl := Option.some.inj hit
              exact hnot
          have hsnoc := val_take_snoc ht
          have HS := Sealed.mk (And.intro hno' hsnoc); clear hno' hsnoc
          rw [hd]
          have he63 : e ≤ 63 := by omega
          subst hee
          have HE := Sealed.mk he63
          clear hd ho hout ht hve hm1 h1 h2 hnot hve63
          have hsl : (0 : Int) ≤ (e : Int) := by omega
          cases m
          · go_wp2_with fail
            go_roundg (n - (k + 1))
            case measure => omega
            case rel => exact ⟨k + 1, rfl, by omega, by push_cast; rfl, by rw [HS.out.2, wrap_add64]; rfl, HB2.out, HS.out.1⟩
          · go_wp2_with fail
            go_roundg (n - (k + 1))
            case measure => omega
            case rel => exact ⟨k + 1, rfl, by omega, by push_cast; rfl, by rw [HS.out.2, wrap_sub64]; rfl, HB2.out, HS.out.1⟩
    · have hkk : k = n := by omega
      subst hkk
      have hi : Is64 y := out64_is fun i t hit => hno i t (by rw [HNE.out]; exact (List.getElem?_eq_some_iff.1 hit).1) hit
      have HR := Sealed.mk (And.intro hi hb); clear hi hb hno
      have hkf : (form y).take k = form y := by rw [HNE.out, List.take_length]
      rw [hkf, val_form]
      have hwy : wrap64 y = y := by have := HR.out.1; unfold Is64 at this; unfold wrap64; omega
      rw [hwy]
      clear hwy hkf
      go_wp2_with fail
      refine bodyPost_ret (v := .tuple #[.int .i64 y, .bool true]) (by simp [results, Try.results85, go_sem]) rfl ⟨?_, HR.out.2⟩
      have hv : val64 y = y := by unfold val64; rw [if_pos HR.out.1]
      rw [hv, decide_eq_true HR.out.1]
end Go.Proofs.Ytgchfbfgjanaiaa

namespace Go.Proofs.Ytgchfbfgjanaiaa
open Go.RowKit Sr
theorem el_int64 : ElemT Try.prog 134 2 1 (.int .i64 0) 8 := ⟨Try.underlying134, by kernel_rfl, rfl, by decide, by decide⟩
theorem made_zero64 (n i : Nat) (h : i < n) : (madeCells #[Value.int .i64 0] n)[i]? = some (.int .i64 0) := by
  have e : (madeCells #[Value.int .i64 0] n)[i]? = (madeCells #[Value.int .i64 0] n).toList[i]? := by simp
  rw [e, toList_madeCells_one]
  simp [h]
def toI64 (x : Int) : Value := .tuple #[.int .i64 (if Is64 x then x else 0), .bool (decide (Is64 x))]
structure IT (w0 W : World) (x : Int) (p : Option Addr) (bv vb np k : Nat) : Prop where
  uc : W.cell? ⟨w0.heap.size, 0, none⟩ = some (.pointer p)
  below : Below w0.heap.size w0 W
  var : W.heap[bv]? = some (.cells #[.slice (some ⟨vb, 0, none⟩) np np] 134 (0, 0))
  tab : ∃ cs : Array Value, W.heap[vb]? = some (.cells cs 2 (0, 0)) ∧ cs.size = np ∧ ∀ (i e : Nat), i < k → (plist x)[i]? = some e → cs[i]? = some (.int .i64 (val64 (e : Int)))
  new : w0.heap.size < bv ∧ w0.heap.size < vb ∧ bv ≠ vb
theorem IT.keep {w0 W W' : World} {x : Int} {p : Option Addr} {bv vb np k : Nat} (h : IT w0 W x p bv vb np k) (hb : Below W.heap.size W W') : IT w0 W' x p bv vb np k := by
  obtain ⟨cs, q1, q2, q3⟩ := h.tab
  exact ⟨(cell_same (hb.block _ (lt_of_cell h.uc)) 0).trans h.uc, h.below.trans (below_mono' hb h.below.size), (hb.block _ (lt_of_blk h.var)).trans h.var, ⟨cs, (hb.block _ (lt_of_blk q1)).trans q1, q2, q3⟩, h.new⟩
theorem IT.vals {w0 W : World} {x : Int} {p : Option Addr} {bv vb k : Nat} (h : IT w0 W x p bv vb (plist x).length k) {y : Int} (hy : ∀ f ∈ exps y, f ∈ (plist x).take k) : W.cell? ⟨bv, 0, none⟩ = some (.slice (some ⟨vb, 0, none⟩) (plist x).length (plist x).length) ∧
    ∀ f ∈ exps y, (pvs x).idxOf (f : Int) < (plist x).length ∧ W.cell? ⟨vb, (pvs x).idxOf (f : Int), none⟩ = some (.int .i64 (val64 (f : Int))) := by
  refine ⟨(cell_of_blk h.var 0).trans rfl, fun f hf => ?_⟩
  obtain ⟨cs, h1, h2, h3⟩ := h.tab
  have hm := hy f hf
  have hm2 : f ∈ plist x := List.mem_of_mem_take hm
  have hi := List.idxOf_lt_length_of_mem hm
  rw [idxOf_take hm] at hi
  have hi' := List.idxOf_lt_length_of_mem hm2
  rw [pvs_idxOf]
  refine ⟨hi', (cell_of_blk h1 _).trans (h3 _ f (by simp at hi; omega) ?_)⟩
  rw [List.getElem?_eq_getElem hi']
  simp
set_option maxRecDepth 100000 in
set_option maxHeartbeats 4000000 in
theorem Int_any {w : World} {u : Value} {x : Int} (h : NumIs w u x) : Calls Try.prog 47 #[u] w fun e w' => e = .returned (toI64 x) ∧ Below w.heap.size w w' := by
  obtain ⟨p, hp⟩ : ∃ p, u = .agg #[.pointer p] := by
    rcases h.2 with ⟨_, h⟩ | ⟨_, k, h, _⟩
    · exact ⟨none, h⟩
    · exact ⟨_, h⟩
  subst hp
  obtain ⟨np, hnp⟩ : ∃ np, np = (plist x).length := ⟨_, rfl⟩
  have hnpb : np ≤ 2000 := by have := h.1.2.2.1; unfold weight at this; omega
  have hpa := fun W (hb : Below w.heap.size w W) => parts_at h hb
  have hsa := fun W (hb : Below w.heap.size w W) => self_at h hb
  have hmk := fun W => run_mk el_int64 np (by omega) W
  obtain ⟨W1, hW1⟩ : ∃ W1, W1 = w.alloc (.cells #[.pointer p] 30) := ⟨_, rfl⟩
  have b1 : Below w.heap.size w W1 := by rw [hW1]; exact (Below.refl _ _).alloc (Nat.le_refl _) _
  have x1 : W1.heap[w.heap.size]? = some (.cells #[.pointer p] 30 (0, 0)) := by rw [hW1]; exact blk_alloc _ _
  have hpa1 := hpa W1 b1
  rw [hW1] at hpa1
  have HPA := Sealed.mk (And.intro hpa (And.intro hsa hpa1)); clear hpa hsa hpa1
  have H := Sealed.mk (And.intro h hnp); clear h hnp
  have HX1 := Sealed.mk (And.intro hW1 (And.intro b1 x1)); clear hW1 b1 x1
  go_enter Try.func47, Try.ntmps47
  go_upto_region 3 with (go_at_call 65; go_must (refine HPA.out.2.2.mono ?_; rintro e w2 ⟨v2, rfl, hp2, hb2⟩; obtain ⟨f2, a2, c2, rfl, r2, r3⟩ := hp2; rw [← H.out.2]; have HB2 := Sealed.mk hb2; clear hb2 f2 r2 r3))
  obtain ⟨W0, hW0⟩ : ∃ W0, W0 = (w2.alloc (.cells (madeCells #[.int .i64 0] np) 2)).alloc (.cells #[.slice (some ⟨w2.heap.size, 0, none⟩) np np] 134) := ⟨_, rfl⟩
  have b2 : Below w.heap.size w w2 := by
    have hb := HB2.out
    rw [← HX1.out.1] at hb
    exact HX1.out.2.1.trans (below_mono' hb HX1.out.2.1.size)
  have x0 : W0.cell? ⟨w.heap.size, 0, none⟩ = some (.pointer p) := by
    have hb := HB2.out
    have y2 := (hb.block w.heap.size (by simp)).trans (blk_alloc w _)
    have y0 := blk_alloc_old (blk_alloc_old y2 (.cells (madeCells #[.int .i64 0] np) 2)) (.cells #[.slice (some ⟨w2.heap.size, 0, none⟩) np np] 134)
    rw [← hW0] at y0
    exact (cell_of_blk y0 0).trans rfl
  have hi0 : IT w W0 x p (w2.heap.size + 1) w2.heap.size np 0 := by
    have c0 := blk_alloc w2 (.cells (madeCells #[.int .i64 0] np) 2)
    have c1 := blk_alloc (w2.alloc (.cells (madeCells #[.int .i64 0] np) 2)) (.cells #[.slice (some ⟨w2.heap.size, 0, none⟩) np np] 134)
    have e : (w2.alloc (.cells (madeCells #[.int .i64 0] np) 2)).heap.size = w2.heap.size + 1 := by simp
    rw [e, ← hW0] at c1
    have c0' := blk_alloc_old c0 (.cells #[.slice (some ⟨w2.heap.size, 0, none⟩) np np] 134)
    rw [← hW0] at c0'
    have hsz : w.heap.size + 1 ≤ w2.heap.size := by have := HB2.out.size; simp at this; omega
    exact ⟨x0, by rw [hW0]; exact below_st' (below_st' b2 _) _, c1, ⟨_, c0', by simp [size_madeCells], fun i e h => by omega⟩, by omega, by omega, by omega⟩
  have hp0 := HPA.out.1 W0 hi0.below
  have HP0 := Sealed.mk hp0; clear hp0
  have HI0 := Sealed.mk hi0; clear hi0
  rw [← hW0]
  have HW0 := Sealed.mk (And.intro hW0 b2); clear hW0 b2
  go_wp2_with (go_at_call 65; go_must (refine HP0.out.mono ?_; rintro e w3 ⟨v3, rfl, hp3, hb3⟩; have HP3 := Sealed.mk (And.intro hp3 hb3); obtain ⟨f3, a3, c3, rfl, r3, r3'⟩ := hp3; rw [← H.out.2] at r3 HP3 ⊢; clear f3 r3' hb3))
  go_loopg [18] np (fun j iv W => ∃ k : Nat, j = np - k ∧ k ≤ np ∧ iv = .int .i64 (k : Int) ∧ IT w W x p (w2.heap.size + 1) w2.heap.size np k)
  case atStart =>
    refine ⟨0, rfl, Nat.zero_le _, rfl, ?_⟩
    have hI := HI0.out
    have hb3 := HP3.out.2
    obtain ⟨cs, q1, q2, q3⟩ := hI.tab
    exact ⟨(cell_same (hb3.block _ (lt_of_cell hI.uc)) 0).trans hI.uc, hI.below.trans (below_mono' hb3 hI.below.size), (hb3.block _ (lt_of_blk hI.var)).trans hI.var, ⟨cs, (hb3.block _ (lt_of_blk q1)).trans q1, q2, q3⟩, hI.new⟩
  case round =>
    obtain ⟨k, rfl, hk, rfl, hI⟩ := hrel
    by_cases hkn : k < np
    · obtain ⟨e, he⟩ : ∃ e, (plist x)[k]? = some e := ⟨_, List.getElem?_eq_getElem (by have := H.out.2; omega)⟩
      obtain ⟨-, a', c', hv3, -, hr3⟩ := HP3.out.1
      obtain ⟨b, o, ha, hcell⟩ := hr3 (fun hh => by rw [hh] at he; simp at he)
      obtain ⟨hva, -, -⟩ := Value.slice.inj hv3
      rw [← hva] at ha
      subst ha
      obtain ⟨uk, hu1, hu2⟩ := hcell.get k e he
      obtain ⟨ua, un, ucp, rfl⟩ := hu2.slice
      have g0 : wr.cell? ⟨b, o + k, none⟩ = some (.slice ua un ucp) := (cell_same (hI.below.block b (lt_of_cell hu1)) _).trans hu1
      have hex : ∀ f ∈ exps (e : Int), f ∈ (plist x).take k := fun f hf => part_ahead he hf
      have hI' := hI
      rw [H.out.2] at hI'
      have hvl := hI'.vals hex
      rw [← H.out.2] at hvl
      have hic := intC_any (w := wr.drew) ((hu2.below hI.below).ext ((Ext.refl noB wr).drew) fun _ _ h => h) (bv := w2.heap.size + 1) (vb := w2.heap.size) (np := np) hvl.1 hvl.2
      obtain ⟨cs, q1, q2, q3⟩ := hI.tab
      have g1 : wr.drew.cell? ⟨w2.heap.size + 1, 0, none⟩ = some (.slice (some ⟨w2.heap.size, 0, none⟩) np np) := hvl.1
      have hkc : ∃ v, cs[k]? = some v := ⟨_, Array.getElem?_eq_getElem (by omega)⟩
      obtain ⟨vk, hvk⟩ := hkc
      obtain ⟨ve, hve⟩ : ∃ ve, ve = val64 (e : Int) := ⟨_, rfl⟩
      rw [← hve] at hic
      have HC := Sealed.mk hic; clear hic
      have HI := Sealed.mk (And.intro hI (And.intro q1 (And.intro q2 (And.intro q3 (And.intro hvk (And.intro he hve)))))); clear hI hI' q1 q2 q3 hvk he hve hvl hex hu1 hu2 hcell hr3 hv3 hva
      have HG1 := Sealed.mk g1
      go_upto_region 6 with fail
      go_region_held3 (fun w' => w'.cell? ⟨w2.heap.size + 1, 0, none⟩ = some (.slice (some ⟨w2.heap.size, 0, none⟩) np np))
        (first | exact HG1.out | exact HG5.out | exact HG6.out _ _)
        (first | (go_at_call 85; go_must (refine HC.out.mono ?_; rintro e' w5 ⟨rfl, hb5⟩; have hy5 := (hb5.block _ (lt_of_blk HI.out.1.var)).trans HI.out.1.var; have HG5 := Sealed.mk ((cell_of_blk hy5 0).trans rfl : w5.cell? ⟨w2.heap.size + 1, 0, none⟩ = some (.slice (some ⟨w2.heap.size, 0, none⟩) np np)); have HG6 : Sealed (∀ (j : Nat) (v : Value), (w5.setCell ⟨w2.heap.size, j, none⟩ v).cell? ⟨w2.heap.size + 1, 0, none⟩ = some (.slice (some ⟨w2.heap.size, 0, none⟩) np np)) := ⟨fun j v => (cell_same (((Ext.refl (fun q => q = w2.heap.size) w5).setCell (p := ⟨w2.heap.size, j, none⟩) (.inl rfl) v).block _ (lt_of_blk hy5) (by omega)) 0).trans HG5.out⟩; have hz5 := (hb5.block _ (lt_of_blk HI.out.2.1)).trans HI.out.2.1; have g7 : w5.cell? ⟨w2.heap.size, k, none⟩ = some vk := (cell_of_blk hz5 k).trans HI.out.2.2.2.2.1; have g8 : w5.frozen? ⟨w2.heap.size, k, none⟩ = false := frozen_of_blk hz5 k; have H5 := Sealed.mk (And.intro hb5 (And.intro hy5 hz5)); clear hb5 hy5 hz5)))
      go_wp2_with fail
      go_roundg (np - (k + 1))
      case measure => omega
      case rel =>
        refine ⟨k + 1, rfl, by omega, by push_cast; rfl, ?_⟩
        obtain ⟨hb5, hy5, hz5⟩ := H5.out
        obtain ⟨hI, q1, q2, q3, hvk, he, hve⟩ := HI.out
        have e6 : Ext (fun q => q = w2.heap.size) w5 (w5.setCell ⟨w2.heap.size, k, none⟩ (.int .i64 ve)) := (Ext.refl (fun q => q = w2.heap.size) w5).setCell (p := ⟨w2.heap.size, k, none⟩) (.inl rfl) _
        have hsz : wr.heap.size ≤ w5.heap.size := hb5.size
        have hnew := hI.new
        refine ⟨?_, ?_, ?_, ⟨cs.setIfInBounds k (.int .i64 ve), by rw [blk_setCell hz5 k _], by simp [q2], fun i f hi hf => ?_⟩, hnew⟩
        · exact (cell_same (e6.block _ (by have := lt_of_cell hI.uc; omega) (by omega)) 0).trans ((cell_same (hb5.block _ (lt_of_cell hI.uc)) 0).trans hI.uc)
        · have hs := hI.below.size
          exact ⟨e6.os.trans (hb5.os.trans hI.below.os), e6.tape.trans (hb5.tape.trans hI.below.tape), e6.output.trans (hb5.output.trans hI.below.output), Nat.le_trans hs (Nat.le_trans hsz e6.size), fun q hq => (e6.block q (by omega) (by omega)).trans ((hb5.block q (by show q < wr.heap.size; omega)).trans (hI.below.block q hq))⟩
        · exact e6.get hy5 (by omega)
        · rw [Array.getElem?_setIfInBounds]
          by_cases hik : k = i
          · subst hik
            rw [he] at hf
            obtain rfl := Option.some.inj hf
            rw [if_pos rfl, if_pos (by omega), hve]
          · rw [if_neg hik]
            exact q3 i f (by omega) hf
    · have hkk : k = np := by omega
      have htk : (plist x).take k = plist x := by rw [hkk, H.out.2, List.take_length]
      have u0 := hI.uc
      have hs := HPA.out.2.1 wr hI.below
      have hcl : ∀ (w5 : World) (v : Value), Below wr.heap.size wr w5 → TL w v (enc (pvs x) x) → Calls Try.prog 85 #[v, .pointer (some ⟨w2.heap.size + 1, 0, none⟩)] w5 fun e w' => e = .returned (.tuple #[.int .i64 (val64 x), .bool (decide (Is64 x))]) ∧ Below w5.heap.size w5 w' := fun w5 v hb hl => by
        have hI5 := hI.keep hb
        have hI' := hI5
        rw [H.out.2] at hI'
        have hvl := hI'.vals (y := x) fun f hf => by rw [htk]; exact mem_plist.2 (.here hf)
        rw [← H.out.2] at hvl
        exact intC_any (hl.below hI5.below) hvl.1 hvl.2
      have HS := Sealed.mk hs; clear hs
      have HCL := Sealed.mk hcl; clear hcl
      have HI := Sealed.mk hI; clear hI
      clear hkk htk
      by_cases h6 : Is64 x
      · have hv : val64 x = x := by unfold val64; rw [if_pos h6]
        have hd : decide (Is64 x) = true := by simp [h6]
        have HCL2 := HCL.out
        rw [hv, hd] at HCL2
        have HCL3 := Sealed.mk HCL2; clear HCL2 HCL
        have H6 := Sealed.mk h6; clear h6 hv hd
        go_wp2_with (first
          | (go_at_call 66; go_must (refine HS.out.mono ?_; rintro e w5 ⟨v5, rfl, hl5, hb5⟩; have HC5 := Sealed.mk (HCL3.out w5 v5 hb5 hl5); have HB5 := Sealed.mk hb5; clear hl5 hb5))
          | (go_at_call 85; go_must (refine HC5.out.mono ?_; rintro e w6 ⟨rfl, hb6⟩)))
        refine bodyPost_ret (v := .tuple #[.int .i64 x, .bool true]) (by simp [results, Try.results47, go_sem]) rfl ⟨?_, ?_⟩
        · unfold toI64; rw [if_pos H6.out, decide_eq_true H6.out]
        · have hI := HI.out.keep HB5.out
          exact hI.below.trans (below_mono' hb6 hI.below.size)
      · have hd : decide (Is64 x) = false := by simp [h6]
        have HCL2 := HCL.out
        rw [hd] at HCL2
        have HCL3 := Sealed.mk HCL2; clear HCL2 HCL
        have H6 := Sealed.mk h6; clear h6 hd
        go_wp2_with (first
          | (go_at_call 66; go_must (refine HS.out.mono ?_; rintro e w5 ⟨v5, rfl, hl5, hb5⟩; have HC5 := Sealed.mk (HCL3.out w5 v5 hb5 hl5); have HB5 := Sealed.mk hb5; clear hl5 hb5))
          | (go_at_call 85; go_must (refine HC5.out.mono ?_; rintro e w6 ⟨rfl, hb6⟩)))
        refine bodyPost_ret (v := .tuple #[.int .i64 0, .bool false]) (by simp [results, Try.results47, go_sem]) rfl ⟨?_, ?_⟩
        · unfold toI64; rw [if_neg H6.out, decide_eq_false H6.out]
        · have hI := HI.out.keep HB5.out
          exact hI.below.trans (below_mono' hb6 hI.below.size)
end Go.Proofs.Ytgchfbfgjanaiaa

namespace Go.Proofs.Ytgchfbfgjanaiaa
open Go.RowKit Sr
theorem ofI_one {n : Int} (h1 : -9223372036854775808 ≤ n) (h2 : n ≤ 9223372036854775807) (w : World) : Calls Try.prog 21 #[.int .i64 n] w fun e w' => ∃ p, e = .returned (.agg #[.pointer p]) ∧ Below w.heap.size w w' ∧ NumIs w' (.agg #[.pointer p]) n :=
  (of_num h1 h2).mono fun e w' h => by
    obtain ⟨u, rfl, hu, hb⟩ := h
    obtain ⟨p, rfl⟩ := hu.ptr
    exact ⟨p, rfl, hb, hu⟩
def NC (W : World) (k : Nat) (p : Option Addr) (x : Int) : Prop := W.heap[k]? = some (.cells #[.pointer p] 30 (0, 0)) ∧ NumIs W (.agg #[.pointer p]) x
theorem NC.below {W W' : World} {k : Nat} {p : Option Addr} {x : Int} (h : NC W k p x) (e : Below W.heap.size W W') : NC W' k p x := ⟨(e.block _ (lt_of_blk h.1)).trans h.1, h.2.below e⟩
theorem NC.cell {W : World} {k : Nat} {p : Option Addr} {x : Int} (h : NC W k p x) : W.cell? ⟨k, 0, none⟩ = some (.pointer p) := (cell_of_blk h.1 0).trans rfl
theorem NC.num {W : World} {k : Nat} {p : Option Addr} {x : Int} (h : NC W k p x) : NumIs W (.agg #[.pointer p]) x := h.2
theorem NC.make {W : World} {p : Option Addr} {x : Int} (h : NumIs W (.agg #[.pointer p]) x) : NC (W.alloc (.cells #[.pointer p] 30)) W.heap.size p x := ⟨blk_alloc _ _, h.below (below_st' (Below.refl _ _) _)⟩
theorem NC.stored {W : World} {k : Nat} {p : Option Addr} {x : Int} (z : W.heap[k]? = some (.cells #[.pointer none] 30 (0, 0))) (h : NumIs W (.agg #[.pointer p]) x) : NC (W.setCell ⟨k, 0, none⟩ (.pointer p)) k p x :=
  ⟨by rw [blk_setCell z 0 _]; rfl, h.other z ((Ext.refl (fun j => j = k) W).setCell (p := ⟨k, 0, none⟩) (.inl rfl) _)⟩
theorem below_drew (W : World) : Below W.heap.size W W.drew := ⟨rfl, rfl, rfl, Nat.le_refl _, fun _ _ => rfl⟩
theorem below_new (W : World) (o : Obj) : Below W.heap.size W (W.alloc o) := below_st' (Below.refl _ _) _
theorem below_set (W : World) (o : Obj) (v : Value) : Below W.heap.size W ((W.alloc o).setCell ⟨W.heap.size, 0, none⟩ v) := (below_new W o).setCell (Nat.le_refl _) _
theorem terms_two {W : World} {p q : Option Addr} {x y : Int} (hp : NumIs W (.agg #[.pointer p]) x) (hq : NumIs W (.agg #[.pointer q]) y) :
    TermsAt (W.alloc (.cells #[.bool false, .pointer p, .bool true, .pointer q] 47)) (.slice (some ⟨W.heap.size, 0, none⟩) 2 2) [(false, x), (true, y)] := by
  have z := blk_alloc W (.cells #[.bool false, .pointer p, .bool true, .pointer q] 47)
  refine ⟨by simp, fun b hb => ?_, _, 2, rfl, by simp, fun _ => ⟨W.heap.size, 0, rfl, fun i t ht => ?_⟩⟩
  · obtain rfl : W.heap.size = b := by simpa [Value.ownBlock] using hb
    simp
  · match i, ht with
    | 0, ht =>
      simp at ht
      subst ht
      exact ⟨p, (cell_of_blk z 0).trans rfl, (cell_of_blk z 1).trans rfl, hp.below (below_st' (Below.refl _ _) _)⟩
    | 1, ht =>
      simp at ht
      subst ht
      exact ⟨q, (cell_of_blk z 2).trans rfl, (cell_of_blk z 3).trans rfl, hq.below (below_st' (Below.refl _ _) _)⟩
    | i + 2, ht => simp at ht
theorem below_dr {w W : World} (h : Below w.heap.size w W) : Below w.heap.size w W.drew := ⟨h.os, h.tape, h.output, h.size, h.block⟩
theorem below_al {w W : World} {o : Obj} (h : Below w.heap.size w W) : Below w.heap.size w (W.alloc o) := below_st' h o
theorem below_se {w W : World} {k i : Nat} {v : Value} (h : Below w.heap.size w W) (hk : w.heap.size ≤ k) : Below w.heap.size w (W.setCell ⟨k, i, none⟩ v) := h.setCell hk v
theorem below_num {w w' : World} (h : Below w.heap.size w w') {W : World} (hb : Below W.heap.size W w) : Below W.heap.size W w' := below_chain hb h
def Res (w : World) (r : Int × Int) (e : Ending) (w' : World) : Prop :=
  ∃ p, e = .returned (.tuple #[.agg #[.pointer p], .int .i64 r.2]) ∧ Below w.heap.size w w' ∧ NumIs w' (.agg #[.pointer p]) r.1
def One (w : World) (x : Int) (e : Ending) (w' : World) : Prop := ∃ p, e = .returned (.agg #[.pointer p]) ∧ Below w.heap.size w w' ∧ NumIs w' (.agg #[.pointer p]) x
open Classical in
noncomputable def gv (z : Int) : Int × Int := if Allowed z then (z, 0) else (0, 5)
open Classical in
noncomputable def shiftR (x y : Int) : Int × Int := if Whole x y then gv (shl x y) else (0, 4)
noncomputable def mulR (x y : Int) : Int × Int := if wl x * wl y ≤ 10000 then gv (x * y) else (0, 5)
open Classical in
noncomputable def sumR (l : List (Bool × Int)) : Int × Int := if (∃ t ∈ l, t.2 < 0) then (0, 1) else if 1000 < l.length then (0, 5) else gv (termsV l)
open Classical in
noncomputable def loadR (l : List Int) : Int × Int := if h : ∃ x, Allowed x ∧ bytesN x = l then (h.choose, 0) else (0, 2)
variable {w : World} {u v : Value} {x y : Int}
theorem gv_of {w' : World} {p : Option Addr} {er z : Int} (h : (Allowed z ∧ er = 0 ∧ NumIs w' (.agg #[.pointer p]) z) ∨ (¬ Allowed z ∧ p = none ∧ er = 5)) : (gv z).2 = er ∧ NumIs w' (.agg #[.pointer p]) (gv z).1 := by
  unfold gv
  rcases h with ⟨h1, rfl, h2⟩ | ⟨h1, rfl, rfl⟩
  · rw [if_pos h1]; exact ⟨rfl, h2⟩
  · rw [if_neg h1]; exact ⟨rfl, NumIs.zero _⟩
theorem res_mk {w w' : World} {p : Option Addr} {er : Int} {r : Int × Int} (hb : Below w.heap.size w w') (h : r.2 = er ∧ NumIs w' (.agg #[.pointer p]) r.1) : Res w r (.returned (.tuple #[.agg #[.pointer p], .int .i64 er])) w' :=
  ⟨p, by rw [h.1], hb, h.2⟩
theorem Add_res (hx : NumIs w u x) (hy : NumIs w v y) : Calls Try.prog 32 #[u, v] w (Res w (gv (x + y))) :=
  (Add_all hx hy).mono fun e w' h => by
    obtain ⟨p, er, rfl, hb, h⟩ := h
    exact res_mk hb (gv_of h)
theorem Sub_res (hx : NumIs w u x) (hy : NumIs w v y) : Calls Try.prog 33 #[u, v] w (Res w (gv (x - y))) :=
  (Sub_all hx hy).mono fun e w' h => by
    obtain ⟨p, er, rfl, hb, h⟩ := h
    rw [Int.sub_eq_add_neg]
    exact res_mk hb (gv_of h)
theorem Shift_res (hx : NumIs w u x) (hy : NumIs w v y) : Calls Try.prog 25 #[u, v] w (Res w (shiftR x y)) :=
  (Shift_any hx hy).mono fun e w' h => by
    obtain ⟨p, er, rfl, hb, ⟨h0, h⟩ | ⟨h0, rfl, rfl⟩⟩ := h
    · unfold shiftR; rw [if_pos h0]; exact res_mk hb (gv_of h)
    · unfold shiftR; rw [if_neg h0]; exact res_mk hb ⟨rfl, NumIs.zero _⟩
theorem Mul_res (hx : NumIs w u x) (hy : NumIs w v y) : Calls Try.prog 34 #[u, v] w (Res w (mulR x y)) :=
  (Mul_any hx hy).mono fun e w' h => by
    obtain ⟨p, er, rfl, hb, ⟨h0, h⟩ | ⟨h0, rfl, rfl⟩⟩ := h
    · unfold mulR; rw [if_pos h0, Int.mul_comm]; exact res_mk hb (gv_of h)
    · unfold mulR; rw [if_neg h0]; exact res_mk hb ⟨rfl, NumIs.zero _⟩
theorem Sum_res {l : List (Bool × Int)} (h : TermsAt w v l) : Calls Try.prog 27 #[v] w (Res w (sumR l)) :=
  (Sum_any h).mono fun e w' h => by
    obtain ⟨p, er, rfl, hb, ⟨h0, rfl, rfl⟩ | ⟨h0, h1, rfl, rfl⟩ | ⟨h0, h1, h⟩⟩ := h
    · unfold sumR; rw [if_pos h0]; exact res_mk hb ⟨rfl, NumIs.zero _⟩
    · unfold sumR; rw [if_neg (by rintro ⟨t, ht, h⟩; have := h0 t ht; omega), if_pos h1]; exact res_mk hb ⟨rfl, NumIs.zero _⟩
    · unfold sumR; rw [if_neg (by rintro ⟨t, ht, h⟩; have := h0 t ht; omega), if_neg (by omega)]; exact res_mk hb (gv_of h)
theorem Load_res {l : List Int} (h : BytesAt w v l) : Calls Try.prog 18 #[v] w (Res w (loadR l)) :=
  (Load_any h).mono fun e w' h => by
    obtain ⟨p, er, rfl, hb, ⟨x, h0, h1, rfl, h2⟩ | ⟨h0, rfl, rfl⟩⟩ := h
    · have hx : ∃ x, Allowed x ∧ bytesN x = l := ⟨x, h0, h1⟩
      unfold loadR; rw [dif_pos hx]
      refine res_mk hb ⟨rfl, ?_⟩
      have : hx.choose = x := bytesN_inj hx.choose_spec.1 h0 (hx.choose_spec.2.trans h1.symm)
      simp only [this]; exact h2
    · unfold loadR; rw [dif_neg h0]; exact res_mk hb ⟨rfl, NumIs.zero _⟩
theorem Neg_one (hx : NumIs w u x) : Calls Try.prog 39 #[u] w (One w (-x)) :=
  (Neg_any hx).mono fun e w' h => by
    obtain ⟨r, rfl, hr, hb⟩ := h
    obtain ⟨p, rfl⟩ := hr.ptr
    exact ⟨p, rfl, hb, hr⟩
theorem Of_one {n : Int} (h : Is64 n) (w : World) : Calls Try.prog 21 #[.int .i64 n] w (One w n) := ofI_one h.1 h.2 w
def Res2 (w : World) (z er : Int) (e : Ending) (w' : World) : Prop :=
  ∃ p, e = .returned (.tuple #[.agg #[.pointer p], .int .i64 er]) ∧ Below w.heap.size w w' ∧ NumIs w' (.agg #[.pointer p]) z
theorem Res.two {w : World} {r : Int × Int} {z er : Int} {e : Ending} {w' : World} (h : Res w r e w') (hr : r = (z, er)) : Res2 w z er e w' := by subst hr; exact h
variable {z er : Int}
theorem Add_two (hr : gv (x + y) = (z, er)) (hx : NumIs w u x) (hy : NumIs w v y) : Calls Try.prog 32 #[u, v] w (Res2 w z er) := (Add_res hx hy).mono fun _ _ h => h.two hr
theorem Sub_two (hr : gv (x - y) = (z, er)) (hx : NumIs w u x) (hy : NumIs w v y) : Calls Try.prog 33 #[u, v] w (Res2 w z er) := (Sub_res hx hy).mono fun _ _ h => h.two hr
theorem Shift_two (hr : shiftR x y = (z, er)) (hx : NumIs w u x) (hy : NumIs w v y) : Calls Try.prog 25 #[u, v] w (Res2 w z er) := (Shift_res hx hy).mono fun _ _ h => h.two hr
theorem Mul_two (hr : mulR x y = (z, er)) (hx : NumIs w u x) (hy : NumIs w v y) : Calls Try.prog 34 #[u, v] w (Res2 w z er) := (Mul_res hx hy).mono fun _ _ h => h.two hr
theorem Sum_two {l : List (Bool × Int)} (hr : sumR l = (z, er)) (h : TermsAt w v l) : Calls Try.prog 27 #[v] w (Res2 w z er) := (Sum_res h).mono fun _ _ h => h.two hr
theorem Load_two {l : List Int} (hr : loadR l = (z, er)) (h : BytesAt w v l) : Calls Try.prog 18 #[v] w (Res2 w z er) := (Load_res h).mono fun _ _ h => h.two hr
end Go.Proofs.Ytgchfbfgjanaiaa
