/-
  sandreckonerlaw01.NumBinary: the walk
  lists of int8s, and bytes, that a law reads: opened
  packs that a law reads: opened
-/
import Derived.Test.YtgchfbfgjanaiaaLwBinaryRx01
import Derived.Test.YtgchfbfgjanaiaaLwBinaryRx02
import Derived.Test.YtgchfbfgjanaiaaLwBinaryRx03
import Derived.Test.YtgchfbfgjanaiaaJ35
import Derived.Test.YtgchfbfgjanaiaaK01
import Derived.Deep.DeepCutAuto
import Derived.Deep.CutRange
import Derived.Deep.RegionHeld3
import Derived.StillTailTactics
import Derived.BigRegion
import Derived.Test.YtgchfbfgjanaiaaK02
set_option linter.unusedSimpArgs false
set_option linter.unusedVariables false
namespace Go.Proofs.Ytgchfbfgjanaiaa
open Go.RowKit Sr

/-- rows of integers that stand -/
structure Rw (W : World) (rows : List (Value × List Int)) : Prop where
  at_ : ∀ (i : Nat) (v : Value) (l : List Int), rows[i]? = some (v, l) → IntsAt W v l
theorem Rw.adv {W W' : World} {rows : List (Value × List Int)} (h : Rw W rows) (e : Below W.heap.size W W') : Rw W' rows := ⟨fun i v l hi => (h.at_ i v l hi).below e⟩
theorem Rw.get {W : World} {rows : List (Value × List Int)} (h : Rw W rows) (i : Nat) {v : Value} {l : List Int} (hi : rows[i]? = some (v, l)) : IntsAt W v l := h.at_ i v l hi
theorem Rw.push {W : World} {rows : List (Value × List Int)} {v : Value} {l : List Int} (h : Rw W rows) (hv : IntsAt W v l) : Rw W ((v, l) :: rows) := ⟨fun i u m hi => by
  cases i with
  | zero => simp at hi; obtain ⟨rfl, rfl⟩ := hi; exact hv
  | succ i => exact h.at_ i u m (by simpa using hi)⟩
theorem Rw.nil (W : World) : Rw W [] := ⟨fun i v l h => by simp at h⟩

theorem IntsAt.own {w : World} {B n : Nat} {v : Value} {l : List Int} (hn : n = l.length) (h : w.ownsRow B 3 1 v n (zrow l)) (hl : n ≤ 1000000) : IntsAt w v l := by subst hn; exact IntsAt.of_own h hl
theorem big4 {l : List Int} (h : ∀ z ∈ l, -4 ≤ z ∧ z ≤ 4) : ∀ z ∈ l, -100000000 ≤ z ∧ z ≤ 100000000 := fun z hz => by have := h z hz; omega

/-- a row of factors that a call has made -/
def RowOut (w : World) (Z : Int) (e : Ending) (w' : World) : Prop := ∃ v r, e = .returned v ∧ IntsAt w' v r ∧ vl r = Z ∧ (∀ z ∈ r, -100000000 ≤ z ∧ z ≤ 100000000) ∧ Below w.heap.size w w'
theorem sums_row {w : World} {va vb : Value} {la lb : List Int} {by_ Z : Int} (ha : IntsAt w va la) (hb : IntsAt w vb lb) (hy : by_ = 1 ∨ by_ = -1) (h4a : ∀ z ∈ la, -4 ≤ z ∧ z ≤ 4) (h4b : ∀ z ∈ lb, -4 ≤ z ∧ z ≤ 4) (hZ : vl la + by_ * vl lb = Z) : Calls Try.prog 35 #[va, vb, .int .i64 by_] w (RowOut w Z) := by
  refine (rSums_any (C := 4) (by decide) ha hb hy h4a h4b).mono ?_
  rintro e w' ⟨a, c, r, rfl, hl, hv, hB, ho, hb'⟩
  exact ⟨_, r, rfl, IntsAt.own rfl ho (by have := ha.len; have := hb.len; omega), by rw [hv, hZ], fun z hz => by have := hB z hz; omega, hb'⟩
theorem prods_row {w : World} {va vb : Value} {la lb : List Int} {Z : Int} (ha : IntsAt w va la) (hb : IntsAt w vb lb) (h4a : ∀ z ∈ la, -4 ≤ z ∧ z ≤ 4) (h4b : ∀ z ∈ lb, -4 ≤ z ∧ z ≤ 4) (hla : la.length ≤ 1000) (hlb : lb.length ≤ 1000) (hZ : vl la * vl lb = Z) : Calls Try.prog 36 #[va, vb] w (RowOut w Z) := by
  refine (rProducts_any ha hb (fun z hz => by have := h4a z hz; omega) (fun z hz => by have := h4b z hz; omega) hla hlb).mono ?_
  rintro e w' ⟨a, c, r, rfl, hl, hv, hB, ho, hb'⟩
  exact ⟨_, r, rfl, IntsAt.own rfl ho (by omega), by rw [hv, hZ], fun z hz => by have := hB z hz; omega, hb'⟩

set_option maxRecDepth 100000 in
set_option maxHeartbeats 4000000 in
theorem lawBinary_any {w : World} {va vb : Value} {A B : List Int} {by_ : Nat} (ha : I8At w va A) (hb : I8At w vb B) (hby : by_ ≤ 255) :
    Calls Try.prog 5 #[.agg #[va], .agg #[vb], .int .u8 (by_ : Int)] w fun e w' => e = .returned (.bool true) ∧ Below w.heap.size w w' := by
  obtain ⟨NA, hNA⟩ : ∃ N, N = A.length := ⟨_, rfl⟩
  obtain ⟨NB, hNB⟩ : ∃ N, N = B.length := ⟨_, rfl⟩
  obtain ⟨aa, ac, hva, hia⟩ := ha
  obtain ⟨ab, bc, hvb, hib⟩ := hb
  subst hva
  subst hvb
  obtain ⟨W2, hW2⟩ : ∃ W2, W2 = (w.alloc (.cells #[.slice aa A.length ac] 56)).alloc (.cells #[.slice ab B.length bc] 56) := ⟨_, rfl⟩
  have hb2 : Below w.heap.size w W2 := by rw [hW2]; exact below_al (below_al (Below.refl _ _))
  have k0 : W2.heap[w.heap.size]? = some (.cells #[.slice aa A.length ac] 56 (0, 0)) := by rw [hW2]; exact blk_alloc_old (blk_alloc _ _) _
  have k1 : W2.heap[w.heap.size + 1]? = some (.cells #[.slice ab B.length bc] 56 (0, 0)) := by
    rw [hW2]
    have := blk_alloc (w.alloc (.cells #[.slice aa A.length ac] 56)) (.cells #[.slice ab B.length bc] 56)
    simpa using this
  have hIA : I8At W2 (.slice aa A.length ac) A := I8At.below ⟨aa, ac, rfl, hia⟩ hb2
  have hIB : I8At W2 (.slice ab B.length bc) B := I8At.below ⟨ab, bc, rfl, hib⟩ hb2
  rw [← hNA] at hW2 k0 hIA ⊢
  rw [← hNB] at hW2 k1 hIB ⊢
  have hbox : ∀ W, Below W2.heap.size W2 W → W.cell? ⟨w.heap.size, 0, none⟩ = some (.slice aa NA ac) ∧ W.cell? ⟨w.heap.size + 1, 0, none⟩ = some (.slice ab NB bc) := fun W hb => ⟨(cell_same (hb.block _ (lt_of_blk k0)) 0).trans ((cell_of_blk k0 0).trans rfl), (cell_same (hb.block _ (lt_of_blk k1)) 0).trans ((cell_of_blk k1 0).trans rfl)⟩
  have HBOX := Sealed.mk hbox
  have H := Sealed.mk (And.intro hb2 (And.intro hIA (And.intro hIB (And.intro hNA hNB))))
  have S := Sealed.mk (St.start W2)
  clear k0 k1 hbox hb2 hIA hIB hia hib hNA hNB
  go_enter Try.func5, Try.ntmps5
  go_upto_region 1 with fail
  rw [← hW2]
  clear hW2
  obtain ⟨g0, g1⟩ := HBOX.out W2 (Below.refl _ _)
  by_cases hbig : 590 < NA ∨ 590 < NB
  · by_cases h1 : 590 < NA
    · have d1 : decide ((590 : Int) < (NA : Int)) = true := decide_eq_true (by omega)
      have d1n : decide (590 < NA) = true := decide_eq_true h1
      clear hbig
      go_wp2_with (go_at_call 15; go_must ((with_reducible refine (awake1_any _).mono ?_); rintro e w999 ⟨rfl, hb⟩; replace S := Sealed.mk (S.out.adv hb); clear hb))
      go_ret
      exact ⟨rfl, below_chain H.out.1 S.out.below⟩
    · have d1 : decide ((590 : Int) < (NA : Int)) = false := decide_eq_false (by omega)
      have d1n : decide (590 < NA) = false := decide_eq_false h1
      have h2 : 590 < NB := by omega
      have d2 : decide ((590 : Int) < (NB : Int)) = true := decide_eq_true (by omega)
      have d2n : decide (590 < NB) = true := decide_eq_true h2
      clear hbig
      go_wp2_with (go_at_call 15; go_must ((with_reducible refine (awake1_any _).mono ?_); rintro e w999 ⟨rfl, hb⟩; replace S := Sealed.mk (S.out.adv hb); clear hb))
      go_ret
      exact ⟨rfl, below_chain H.out.1 S.out.below⟩
  · have hA9 : NA ≤ 590 := by omega
    have hB9 : NB ≤ 590 := by omega
    have d1 : decide ((590 : Int) < (NA : Int)) = false := decide_eq_false (by omega)
    have d1n : decide (590 < NA) = false := decide_eq_false (by omega)
    have d2 : decide ((590 : Int) < (NB : Int)) = false := decide_eq_false (by omega)
    have d2n : decide (590 < NB) = false := decide_eq_false (by omega)
    obtain ⟨n, hn⟩ : ∃ n : Nat, n = by_ % 201 := ⟨_, rfl⟩
    have hn2 : n ≤ 200 := by omega
    have hbf := bin_facts (A := A) (B := B) (n := n) (by rw [← H.out.2.2.2.1]; exact hA9) (by rw [← H.out.2.2.2.2]; exact hB9) hn2
    obtain ⟨x, hx⟩ : ∃ x, x = vl (cntF A) := ⟨_, rfl⟩
    obtain ⟨y, hy⟩ : ∃ y, y = vl (cntF B) := ⟨_, rfl⟩
    rw [← hx, ← hy] at hbf
    have BF := Sealed.mk (And.intro hbf (And.intro hx (And.intro hy hn)))
    have hcA := lawCounted_any (back := false) H.out.2.1 (by rw [← H.out.2.2.2.1]; exact hA9)
    have hcB : ∀ W, Below W2.heap.size W2 W → Calls Try.prog 30 #[.agg #[.slice ab NB bc], .bool true] W fun e w' => ∃ a c p, e = .returned (.tuple #[.slice a NB c, .agg #[.pointer p], .int .i64 0]) ∧
      w'.ownsRow W.heap.size 3 1 (.slice a NB c) NB (zrow (cntF B)) ∧ NumIs w' (.agg #[.pointer p]) y ∧ Below W.heap.size W w' := fun W hb => by
      have := lawCounted_any (w := W) (back := true) (H.out.2.2.1.below hb) (by rw [← H.out.2.2.2.2]; exact hB9)
      rw [← H.out.2.2.2.2, ← hy] at this
      exact this
    rw [← H.out.2.2.2.1, ← hx] at hcA
    have HCA := Sealed.mk hcA
    have HCB := Sealed.mk hcB
    clear hcA hcB hbf hx hy hn hbig
    go_upto_region 4 with (go_at_call 30; go_must ((with_reducible refine HCA.out.mono ?_); rintro e w3 ⟨a3, c3, p3, rfl, ho, hn, hb⟩; have D := Sealed.mk (And.intro ho (And.intro hn hb)); clear ho hn hb))
    have S0 := ((S.out.res D.out.2.2 D.out.2.1).new D.out.2.1).clr
    have R0 := (((Rw.nil w3).push (IntsAt.own (by rw [cntF_length]; exact H.out.2.2.2.1) D.out.1 (by omega)))).adv (below_new w3 (.cells #[.pointer p3] 30))
    obtain ⟨W4, hW4⟩ : ∃ W4, W4 = w3.alloc (.cells #[.pointer p3] 30) := ⟨_, rfl⟩
    obtain ⟨kx, hkx⟩ : ∃ k, k = w3.heap.size := ⟨_, rfl⟩
    rw [← hW4, ← hkx] at S0
    rw [← hW4] at R0
    rw [← hW4, ← hkx]
    replace S := Sealed.mk S0
    have R := Sealed.mk R0
    have g1 := (HBOX.out W4 S.out.below).2
    clear S0 R0 hW4 hkx D HCA
    go_upto_region 5 with (go_at_call 30; go_must ((with_reducible refine (HCB.out _ S.out.below).mono ?_); rintro e w5 ⟨a5, c5, p5, rfl, ho, hn, hb⟩; have D := Sealed.mk (And.intro ho (And.intro hn hb)); clear ho hn hb))
    have S0 := ((S.out.res D.out.2.2 D.out.2.1).new D.out.2.1).clr
    have R0 := ((R.out.adv D.out.2.2).push (IntsAt.own (by rw [cntF_length]; exact H.out.2.2.2.2) D.out.1 (by omega))).adv (below_new w5 (.cells #[.pointer p5] 30))
    obtain ⟨W6, hW6⟩ : ∃ W6, W6 = w5.alloc (.cells #[.pointer p5] 30) := ⟨_, rfl⟩
    obtain ⟨ky, hky⟩ : ∃ k, k = w5.heap.size := ⟨_, rfl⟩
    rw [← hW6, ← hky] at S0
    rw [← hW6] at R0
    rw [← hW6, ← hky]
    replace S := Sealed.mk S0
    replace R := Sealed.mk R0
    clear S0 R0 hW6 hky D HCB g1
    have ld0 := S.out.cell 1 rfl
    have ld1 := S.out.cell 0 rfl
    go_cut [65] from 48 to 65 (fun v wx => v = .bool false ∧ Below W6.heap.size W6 wx)
    case first =>
      have HB := Sealed.mk (Below.refl W6.heap.size W6)
      go_wp2_with (go_at_call 31; go_must (first
        | ((with_reducible refine (lawIs_any (S.out.cnum 1 rfl) (R.out.get 1 rfl) BF.out.1.ex (big4 cntF_small) BF.out.2.1.symm).mono ?_); rintro e w7 ⟨rfl, hb⟩; replace S := Sealed.mk (S.out.adv hb); replace R := Sealed.mk (R.out.adv hb); replace HB := Sealed.mk (below_chain HB.out hb); clear hb; have lx1 := S.out.cell 0 rfl)
        | ((with_reducible refine (lawIs_any (S.out.cnum 0 rfl) (R.out.get 0 rfl) BF.out.1.ey (big4 cntF_small) BF.out.2.2.1.symm).mono ?_); rintro e w8 ⟨rfl, hb⟩; replace S := Sealed.mk (S.out.adv hb); replace R := Sealed.mk (R.out.adv hb); replace HB := Sealed.mk (below_chain HB.out hb); clear hb)))
      go_meet
      case rel => exact ⟨by first | rfl | simp, HB.out⟩
    case rest =>
      obtain ⟨rfl, hbc⟩ := hcut
      obtain ⟨W7, hW7⟩ : ∃ W7, W7 = wc := ⟨_, rfl⟩
      rw [← hW7] at hbc ⊢
      clear hW7 ld0 ld1
      replace S := Sealed.mk (S.out.adv hbc)
      replace R := Sealed.mk (R.out.adv hbc)
      clear hbc
      have ld0 := S.out.cell 1 rfl
      have ld1 := S.out.cell 0 rfl
      go_upto_region 8 with (go_at_call 32; go_must ((with_reducible refine (Add_two BF.out.1.sum (S.out.cnum 1 rfl) (S.out.cnum 0 rfl)).mono ?_); rintro e w8 ⟨p8, rfl, hb, hn⟩; replace S := Sealed.mk (S.out.res hb hn); replace R := Sealed.mk (R.out.adv hb); clear hb hn))
      clear ld0 ld1
      have S0 := (S.out.new (S.out.num 0 rfl)).clr
      have R0 := R.out.adv (below_new w8 (.cells #[.pointer p8] 30))
      obtain ⟨W8, hW8⟩ : ∃ W8, W8 = w8.alloc (.cells #[.pointer p8] 30) := ⟨_, rfl⟩
      obtain ⟨k8, hk8⟩ : ∃ k, k = w8.heap.size := ⟨_, rfl⟩
      rw [← hW8, ← hk8] at S0
      rw [← hW8] at R0
      rw [← hW8, ← hk8]
      replace S := Sealed.mk S0
      replace R := Sealed.mk R0
      clear S0 R0 hW8 hk8
      have ld0 := S.out.cell 2 rfl
      have ld1 := S.out.cell 1 rfl
      go_upto_region 9 with (go_at_call 33; go_must ((with_reducible refine (Sub_two BF.out.1.less (S.out.cnum 2 rfl) (S.out.cnum 1 rfl)).mono ?_); rintro e w9 ⟨p9, rfl, hb, hn⟩; replace S := Sealed.mk (S.out.res hb hn); replace R := Sealed.mk (R.out.adv hb); clear hb hn))
      clear ld0 ld1
      have S0 := (S.out.new (S.out.num 0 rfl)).clr
      have R0 := R.out.adv (below_new w9 (.cells #[.pointer p9] 30))
      obtain ⟨W9, hW9⟩ : ∃ W9, W9 = w9.alloc (.cells #[.pointer p9] 30) := ⟨_, rfl⟩
      obtain ⟨k9, hk9⟩ : ∃ k, k = w9.heap.size := ⟨_, rfl⟩
      rw [← hW9, ← hk9] at S0
      rw [← hW9] at R0
      rw [← hW9, ← hk9]
      replace S := Sealed.mk S0
      replace R := Sealed.mk R0
      clear S0 R0 hW9 hk9
      have OF0 := Sealed.mk (fun W => Of_one (n := 0) (by unfold Is64; decide) W)
      go_upto_region 10 with (go_at_call 21; go_must ((with_reducible refine (OF0.out _).mono ?_); rintro e w10 ⟨p10, rfl, hb, hn⟩; replace S := Sealed.mk (S.out.res hb hn); replace R := Sealed.mk (R.out.adv hb); clear hb hn))
      have S0 := (S.out.new (S.out.num 0 rfl)).clr
      have R10 := Sealed.mk R.out
      have B10 := Sealed.mk (below_new w10 (.cells #[.pointer p10] 30))
      obtain ⟨W10, hW10⟩ : ∃ W10, W10 = w10.alloc (.cells #[.pointer p10] 30) := ⟨_, rfl⟩
      obtain ⟨k10, hk10⟩ : ∃ k, k = w10.heap.size := ⟨_, rfl⟩
      rw [← hW10] at B10
      have HK10 := Sealed.mk hk10
      rw [← hW10, ← hk10] at S0
      rw [← hW10, ← hk10]
      replace S := Sealed.mk S0
      clear S0 hW10 hk10 R
      obtain ⟨sb, hsb⟩ : ∃ sb : Bool, sb = decide (NA ≤ 160 ∧ NB ≤ 160) := ⟨_, rfl⟩
      have HSB : Sealed (sb = true ↔ NA ≤ 160 ∧ NB ≤ 160) := ⟨by rw [hsb]; simp⟩
      obtain ⟨g0, g1⟩ := HBOX.out W10 S.out.below
      go_cut [88] from 79 to 88 (fun v wx => v = .bool sb ∧ wx = W10)
      case first =>
        by_cases h1 : NA ≤ 160
        · have e1 : decide ((NA : Int) ≤ 160) = true := decide_eq_true (by omega)
          have e1n : decide (NA ≤ 160) = true := decide_eq_true h1
          by_cases h2 : NB ≤ 160
          · have e2 : decide ((NB : Int) ≤ 160) = true := decide_eq_true (by omega)
            have e2n : decide (NB ≤ 160) = true := decide_eq_true h2
            have HS := Sealed.mk (show sb = true by rw [hsb]; simp [h1, h2])
            clear hsb
            go_wp2_with fail
            go_meet
            case rel => exact ⟨by rw [HS.out], rfl⟩
          · have e2 : decide ((NB : Int) ≤ 160) = false := decide_eq_false (by omega)
            have e2n : decide (NB ≤ 160) = false := decide_eq_false h2
            have HS := Sealed.mk (show sb = false by rw [hsb]; simp [h1, h2])
            clear hsb
            go_wp2_with fail
            go_meet
            case rel => exact ⟨by rw [HS.out], rfl⟩
        · have e1 : decide ((NA : Int) ≤ 160) = false := decide_eq_false (by omega)
          have e1n : decide (NA ≤ 160) = false := decide_eq_false h1
          have HS := Sealed.mk (show sb = false by rw [hsb]; simp [h1])
          clear hsb
          go_wp2_with fail
          go_meet
          case rel => exact ⟨by rw [HS.out], rfl⟩
      case rest =>
        obtain ⟨rfl, rfl⟩ := hcut
        obtain ⟨W11, hW11⟩ : ∃ W11, W11 = wc := ⟨_, rfl⟩
        rw [← hW11] at S B10 ⊢
        clear hW11 hsb g0 g1
        obtain ⟨zz, hzz⟩ : ∃ zz : Int, zz = if sb = true then x * y else 0 := ⟨_, rfl⟩
        have HZ := Sealed.mk hzz; clear hzz
        have ld0 := S.out.cell 4 rfl
        have ld1 := S.out.cell 3 rfl
        go_upto_if 88 with fail
        go_cut [18] from 89 to 94 (fun ev wx => ev = .int .i64 0 ∧ Below w10.heap.size w10 wx ∧ ∃ pz, St W2 wx [] [(k10, pz, zz), (k9, p9, x - y), (k8, p8, x + y), (ky, p5, y), (kx, p3, x)])
        case first =>
          cases sb with
          | false =>
            have HZ0 := Sealed.mk (show zz = 0 by rw [HZ.out]; rfl)
            go_wp2_with fail
            go_meet
            case rel => exact ⟨rfl, B10.out, p10, by rw [HZ0.out]; exact S.out⟩
          | true =>
            have HSM := Sealed.mk (HSB.out.1 rfl)
            have HZ0 := Sealed.mk (show zz = x * y by rw [HZ.out]; rfl)
            go_wp2_with (go_at_call 34; go_must ((with_reducible refine (Mul_two (BF.out.1.mul (by rw [← H.out.2.2.2.1, ← H.out.2.2.2.2]; exact HSM.out)) (S.out.cnum 4 rfl) (S.out.cnum 3 rfl)).mono ?_); rintro e w12 ⟨p12, rfl, hb, hn⟩; replace B10 := Sealed.mk (below_chain B10.out hb); replace S := Sealed.mk (S.out.res hb hn); clear hb hn; have zc := S.out.cell 0 rfl; have zf := S.out.frozen 0 rfl))
            go_meet
            case rel => exact ⟨rfl, B10.out.setCell (by rw [← HK10.out]; exact Nat.le_refl k10) _, p12, by rw [HZ0.out]; exact (S.out.put 0 rfl (S.out.num 0 rfl)).clr⟩
        case rest =>
          obtain ⟨rfl, hb10, pz, hS⟩ := hcut
          obtain ⟨W12, hW12⟩ : ∃ W12, W12 = wc := ⟨_, rfl⟩
          rw [← hW12] at hS hb10 ⊢
          clear hW12 ld0 ld1
          replace S := Sealed.mk hS
          have R := Sealed.mk (R10.out.adv hb10)
          clear hS hb10 B10 R10
          have f1 : IntKind.i64.wrap (by_ : Int) = (by_ : Int) := by rw [IntKind.wrap_i64]; omega
          have f2 : (by_ : Int).tmod 201 = (n : Int) := by rw [Int.tmod_eq_emod_of_nonneg (by omega), BF.out.2.2.2]; omega
          have f3 : (by_ : Int) % 201 = (n : Int) := by rw [BF.out.2.2.2]; omega
          have OFN := Sealed.mk (fun W => Of_one (n := (n : Int)) (by clear f1 f2 f3; unfold Is64; omega) W)
          have OFM := Sealed.mk (fun W => Of_one (n := -(n : Int)) (by clear f1 f2 f3; unfold Is64; omega) W)
          go_upto_region 13 with fail
          go_cut [20, 21] from 98 to 104 (fun vn ve wx => ∃ kn pn, vn = .pointer (some ⟨kn, 0, none⟩) ∧ ve = .int .i64 0 ∧ St W2 wx [] [(kn, pn, 2 ^ n * x), (k10, pz, zz), (k9, p9, x - y), (k8, p8, x + y), (ky, p5, y), (kx, p3, x)] ∧ Below W12.heap.size W12 wx)
          case first =>
            have T := Sealed.mk (St.start W12)
            go_region_held3 (fun W => W.cell? ⟨kx, 0, none⟩ = some (.pointer p3))
              (first
                | exact S.out.cell 4 rfl
                | exact S.out.dr.cell 4 rfl
                | exact S.out.cell 5 rfl
                | exact (S.out.new (NumIs.zero _)).dr.cell 5 rfl
                | exact (S.out.new (NumIs.zero _)).cell 5 rfl
                | exact (S.out.put 0 rfl (S.out.num 0 rfl)).cell 5 rfl
                | exact (S.out.new (S.out.num 0 rfl)).cell 5 rfl
                | fail)
              (first
                | (go_at_call 21; go_must ((with_reducible refine (OFN.out _).mono ?_); rintro e w20 ⟨p20, rfl, hb, hn⟩; first | (replace S := Sealed.mk (S.out.dr.res hb hn); replace T := Sealed.mk (T.out.dr.res hb hn)) | (replace S := Sealed.mk ((S.out.new (NumIs.zero _)).dr.res hb hn); replace T := Sealed.mk ((T.out.new (NumIs.zero _)).dr.res hb hn)); clear hb hn))
                | (go_at_call 25; go_must (first
                    | ((with_reducible refine (Shift_two BF.out.1.up (S.out.cnum 4 rfl) (S.out.num 0 rfl)).mono ?_); rintro e w20' ⟨p20', rfl, hb, hn⟩; replace S := Sealed.mk (S.out.res hb hn); replace T := Sealed.mk (T.out.res hb hn); clear hb hn)
                    | ((with_reducible refine (Shift_two BF.out.1.up (S.out.cnum 5 rfl) (S.out.num 0 rfl)).mono ?_); rintro e w20' ⟨p20', rfl, hb, hn⟩; replace S := Sealed.mk (S.out.res hb hn); replace T := Sealed.mk (T.out.res hb hn); have zc := S.out.cell 0 rfl; have zf := S.out.frozen 0 rfl; clear hb hn)
                    | ((with_reducible refine (Shift_two BF.out.1.up ((S.out.new (NumIs.zero _)).cnum 5 rfl) ((S.out.new (NumIs.zero _)).num 0 rfl)).mono ?_); rintro e w20' ⟨p20', rfl, hb, hn⟩; replace S := Sealed.mk ((S.out.new (NumIs.zero _)).res hb hn); replace T := Sealed.mk ((T.out.new (NumIs.zero _)).res hb hn); have zc := S.out.cell 0 rfl; have zf := S.out.frozen 0 rfl; clear hb hn))))
            all_goals
              go_wp2_with fail
              go_meet
              case rel =>
                first
                  | exact ⟨_, _, rfl, rfl, (S.out.new (S.out.num 0 rfl)).clr, (T.out.new (T.out.num 0 rfl)).below⟩
                  | exact ⟨_, _, rfl, rfl, (S.out.put 0 rfl (S.out.num 0 rfl)).clr, (T.out.put 0 rfl (T.out.num 0 rfl)).below⟩
          case rest =>
            obtain ⟨k20, q20, rfl, rfl, hS, hbn⟩ := hcut
            obtain ⟨W20, hW20⟩ : ∃ W20, W20 = wc := ⟨_, rfl⟩
            rw [← hW20] at hS hbn ⊢
            clear hW20
            replace S := Sealed.mk hS
            replace R := Sealed.mk (R.out.adv hbn)
            clear hS hbn
            clear f1 f2 f3
            have fneg : IntKind.i64.wrap (-(n : Int)) = -(n : Int) := by rw [IntKind.wrap_i64]; omega
            go_upto_region 14 with fail
            go_cut [22, 23] from 105 to 112 (fun vn ve wx => ∃ kn pn, vn = .pointer (some ⟨kn, 0, none⟩) ∧ ve = .int .i64 0 ∧ St W2 wx [] [(kn, pn, x), (k20, q20, 2 ^ n * x), (k10, pz, zz), (k9, p9, x - y), (k8, p8, x + y), (ky, p5, y), (kx, p3, x)] ∧ Below W20.heap.size W20 wx)
            case first =>
              have T := Sealed.mk (St.start W20)
              go_region_held3 (fun W => W.cell? ⟨k20, 0, none⟩ = some (.pointer q20))
                (first
                  | exact S.out.cell 0 rfl
                  | exact S.out.dr.cell 0 rfl
                  | exact S.out.cell 1 rfl
                  | exact (S.out.new (NumIs.zero _)).dr.cell 1 rfl
                  | exact (S.out.new (NumIs.zero _)).cell 1 rfl
                  | exact (S.out.put 0 rfl (S.out.num 0 rfl)).cell 1 rfl
                  | exact (S.out.new (S.out.num 0 rfl)).cell 1 rfl
                  | fail)
                (first
                  | (go_at_call 21; go_must ((with_reducible refine (OFM.out _).mono ?_); rintro e w22 ⟨p22, rfl, hb, hn⟩; first | (replace S := Sealed.mk (S.out.dr.res hb hn); replace T := Sealed.mk (T.out.dr.res hb hn)) | (replace S := Sealed.mk ((S.out.new (NumIs.zero _)).dr.res hb hn); replace T := Sealed.mk ((T.out.new (NumIs.zero _)).dr.res hb hn)); clear hb hn))
                  | (go_at_call 25; go_must (first
                      | ((with_reducible refine (Shift_two BF.out.1.down (S.out.cnum 0 rfl) (S.out.num 0 rfl)).mono ?_); rintro e w22' ⟨p22', rfl, hb, hn⟩; replace S := Sealed.mk (S.out.res hb hn); replace T := Sealed.mk (T.out.res hb hn); clear hb hn)
                      | ((with_reducible refine (Shift_two BF.out.1.down (S.out.cnum 1 rfl) (S.out.num 0 rfl)).mono ?_); rintro e w22' ⟨p22', rfl, hb, hn⟩; replace S := Sealed.mk (S.out.res hb hn); replace T := Sealed.mk (T.out.res hb hn); have zc := S.out.cell 0 rfl; have zf := S.out.frozen 0 rfl; clear hb hn)
                      | ((with_reducible refine (Shift_two BF.out.1.down ((S.out.new (NumIs.zero _)).cnum 1 rfl) ((S.out.new (NumIs.zero _)).num 0 rfl)).mono ?_); rintro e w22' ⟨p22', rfl, hb, hn⟩; replace S := Sealed.mk ((S.out.new (NumIs.zero _)).res hb hn); replace T := Sealed.mk ((T.out.new (NumIs.zero _)).res hb hn); have zc := S.out.cell 0 rfl; have zf := S.out.frozen 0 rfl; clear hb hn))))
              all_goals
                go_wp2_with fail
                go_meet
                case rel =>
                  first
                    | exact ⟨_, _, rfl, rfl, (S.out.new (S.out.num 0 rfl)).clr, (T.out.new (T.out.num 0 rfl)).below⟩
                    | exact ⟨_, _, rfl, rfl, (S.out.put 0 rfl (S.out.num 0 rfl)).clr, (T.out.put 0 rfl (T.out.num 0 rfl)).below⟩
            case rest =>
              obtain ⟨k22, q22, rfl, rfl, hS, hbn⟩ := hcut
              obtain ⟨W22, hW22⟩ : ∃ W22, W22 = wc := ⟨_, rfl⟩
              rw [← hW22] at hS hbn ⊢
              clear hW22
              replace S := Sealed.mk hS
              replace R := Sealed.mk (R.out.adv hbn)
              clear hS hbn
              clear fneg
              have fn1 : wrap64 ((n : Int) + 1) = (n : Int) + 1 := by unfold wrap64; omega
              have hmk : (Instr.makeSlice 57 (.int .i64 ((n : Int) + 1)) (.int .i64 ((n : Int) + 1))).run Try.prog W22 = .ok (.slice (some ⟨W22.heap.size, 0, none⟩) (n + 1) (n + 1)) (W22.alloc (.cells (madeCells #[.int .i64 0] (n + 1)) 3)) := by
                have := run_mk el_int (n + 1) (by omega) W22
                push_cast at this
                simpa [Value.cells] using this
              go_upto_region 18 with fail
              obtain ⟨W23, hW23⟩ : ∃ W23, W23 = W22.alloc (.cells (madeCells #[.int .i64 0] (n + 1)) 3) := ⟨_, rfl⟩
              have ho23 : W23.ownsRow W22.heap.size 3 1 (.slice (some ⟨W22.heap.size, 0, none⟩) (n + 1) (n + 1)) (n + 1) (zrow (List.replicate (n + 1) 0)) := by
                have := World.ownsRow_lit (base := W22.heap.size) (e := 3) (size := 1) W22 (madeCells #[.int .i64 0] (n + 1)) (n + 1) (Nat.le_refl _) (by unfold maxLen; omega) (by simp [size_madeCells])
                rw [hW23]
                rw [toList_madeCells_one] at this
                simpa [zrow] using this
              have hb23 : Below W22.heap.size W22 W23 := by rw [hW23]; exact below_new _ _
              have c23 := own_cell (j := n) (u := .int .i64 0) ho23 (b := W22.heap.size) rfl (zrow_get (by rw [List.getElem?_replicate, if_pos (by omega)]))
              have f23 := own_free ho23 (b := W22.heap.size) rfl n
              have hin : (n : Int) < (n : Int) + 1 := by omega
              have hinn : n < n + 1 := by omega
              rw [← hW23]
              clear hW23 hmk
              have HW := Sealed.mk (And.intro ho23 hb23)
              clear ho23 hb23
              go_upto_region 19 with fail
              have hrow : IntsAt (W23.setCell ⟨W22.heap.size, n, none⟩ (.int .i64 1)) (.slice (some ⟨W22.heap.size, 0, none⟩) (n + 1) (n + 1)) (List.replicate n 0 ++ [1]) := by
                refine IntsAt.own (B := W22.heap.size) (n := n + 1) (by simp) ?_ (by clear fn1; omega)
                rw [← set_power, zrow_set]
                exact own_set (j := n) HW.out.1 rfl (by omega) _
              obtain ⟨W24, hW24⟩ : ∃ W24, W24 = W23.setCell ⟨W22.heap.size, n, none⟩ (.int .i64 1) := ⟨_, rfl⟩
              have hb24 : Below W22.heap.size W22 W24 := by rw [hW24]; exact HW.out.2.setCell (Nat.le_refl _) _
              rw [← hW24] at hrow ⊢
              replace S := Sealed.mk (S.out.adv hb24)
              replace R := Sealed.mk ((R.out.adv hb24).push hrow)
              clear hW24 hrow hb24 HW c23 f23 fn1 hin hinn
              have h4p : ∀ z ∈ List.replicate n (0 : Int) ++ [1], -4 ≤ z ∧ z ≤ 4 := fun z hz => by
                rcases List.mem_append.1 hz with hz | hz
                · rw [List.eq_of_mem_replicate hz]; omega
                · obtain rfl := List.mem_singleton.1 hz; omega
              have HP := Sealed.mk (And.intro h4p (show (List.replicate n (0 : Int) ++ [1]).length ≤ 1000 by simp; omega))
              clear h4p
              have HL := Sealed.mk (And.intro (show (cntF A).length ≤ 1000 by rw [cntF_length, ← H.out.2.2.2.1]; omega) (show (cntF B).length ≤ 1000 by rw [cntF_length, ← H.out.2.2.2.2]; omega))
              go_cut [158] from 137 to 158 (fun v wx => v = .bool false ∧ Below W24.heap.size W24 wx)
              case first =>
                have HB := Sealed.mk (below_dr (Below.refl W24.heap.size W24))
                replace S := Sealed.mk S.out.dr
                replace R := Sealed.mk (R.out.adv (below_drew _))
                go_region_held3 (fun W => W.cell? ⟨k8, 0, none⟩ = some (.pointer p8) ∧ W.cell? ⟨k9, 0, none⟩ = some (.pointer p9) ∧ W.cell? ⟨k20, 0, none⟩ = some (.pointer q20))
                  (exact ⟨S.out.cell 4 rfl, S.out.cell 3 rfl, S.out.cell 1 rfl⟩)
                  (first
                    | (go_at_call 35; go_must (first
                        | ((with_reducible refine (sums_row (Z := x + y) (R.out.get 2 rfl) (R.out.get 1 rfl) (.inl rfl) cntF_small cntF_small (by rw [← BF.out.2.1, ← BF.out.2.2.1]; omega)).mono ?_); rintro e w30 ⟨v30, r30, rfl, hr, hv, hB, hb⟩; replace S := Sealed.mk (S.out.adv hb); replace R := Sealed.mk (R.out.adv hb); replace HB := Sealed.mk (below_chain HB.out hb); have RR := Sealed.mk (And.intro hr (And.intro hv hB)); clear hr hv hB hb)
                        | ((with_reducible refine (sums_row (Z := x - y) (R.out.get 2 rfl) (R.out.get 1 rfl) (.inr rfl) cntF_small cntF_small (by rw [← BF.out.2.1, ← BF.out.2.2.1]; omega)).mono ?_); rintro e w31 ⟨v31, r31, rfl, hr, hv, hB, hb⟩; replace S := Sealed.mk (S.out.adv hb); replace R := Sealed.mk (R.out.adv hb); replace HB := Sealed.mk (below_chain HB.out hb); have RR := Sealed.mk (And.intro hr (And.intro hv hB)); clear hr hv hB hb)))
                    | (go_at_call 36; go_must ((with_reducible refine (prods_row (Z := 2 ^ n * x) (R.out.get 2 rfl) (R.out.get 0 rfl) cntF_small HP.out.1 HL.out.1 HP.out.2 (by rw [vl_power, ← BF.out.2.1, Int.mul_comm])).mono ?_); rintro e w32 ⟨v32, r32, rfl, hr, hv, hB, hb⟩; replace S := Sealed.mk (S.out.adv hb); replace R := Sealed.mk (R.out.adv hb); replace HB := Sealed.mk (below_chain HB.out hb); have RR := Sealed.mk (And.intro hr (And.intro hv hB)); clear hr hv hB hb))
                    | (go_at_call 31; go_must (first
                        | ((with_reducible refine (lawIs_any (S.out.cnum 4 rfl) RR.out.1 BF.out.1.esum RR.out.2.2 RR.out.2.1).mono ?_); rintro e w33 ⟨rfl, hb⟩; replace S := Sealed.mk (S.out.adv hb); replace R := Sealed.mk (R.out.adv hb); replace HB := Sealed.mk (below_chain HB.out hb); clear hb)
                        | ((with_reducible refine (lawIs_any (S.out.cnum 3 rfl) RR.out.1 BF.out.1.eless RR.out.2.2 RR.out.2.1).mono ?_); rintro e w34 ⟨rfl, hb⟩; replace S := Sealed.mk (S.out.adv hb); replace R := Sealed.mk (R.out.adv hb); replace HB := Sealed.mk (below_chain HB.out hb); clear hb)
                        | ((with_reducible refine (lawIs_any (S.out.cnum 1 rfl) RR.out.1 BF.out.1.eup RR.out.2.2 RR.out.2.1).mono ?_); rintro e w35 ⟨rfl, hb⟩; replace S := Sealed.mk (S.out.adv hb); replace R := Sealed.mk (R.out.adv hb); replace HB := Sealed.mk (below_chain HB.out hb); clear hb))))
                all_goals
                  go_wp2_with fail
                  go_meet
                  case rel => exact ⟨by first | rfl | simp, HB.out⟩
              case rest =>
                obtain ⟨rfl, hbc⟩ := hcut
                obtain ⟨W25, hW25⟩ : ∃ W25, W25 = wc := ⟨_, rfl⟩
                rw [← hW25] at hbc ⊢
                clear hW25
                replace S := Sealed.mk (S.out.adv hbc)
                replace R := Sealed.mk (R.out.adv hbc)
                clear hbc
                go_upto_region 21 with fail
                go_cut [176] from 159 to 176 (fun v wx => v = .bool false ∧ Below W25.heap.size W25 wx)
                case first =>
                  cases sb with
                  | false =>
                    obtain ⟨g0, g1⟩ := HBOX.out W25 S.out.below
                    have g0d : ∀ q, (W25.drewN q).cell? ⟨w.heap.size, 0, none⟩ = some (.slice aa NA ac) := fun _ => g0
                    have g1d : ∀ q, (W25.drewN q).cell? ⟨w.heap.size + 1, 0, none⟩ = some (.slice ab NB bc) := fun _ => g1
                    have hno : ¬ (NA ≤ 160 ∧ NB ≤ 160) := fun h => by have := HSB.out.2 h; simp at this
                    by_cases h1 : NA ≤ 160
                    · have h2 : ¬ NB ≤ 160 := fun h2 => hno ⟨h1, h2⟩
                      have e1 : decide ((NA : Int) ≤ 160) = true := decide_eq_true (by omega)
                      have e1n : decide (NA ≤ 160) = true := decide_eq_true h1
                      have e2 : decide ((NB : Int) ≤ 160) = false := decide_eq_false (by omega)
                      have e2n : decide (NB ≤ 160) = false := decide_eq_false h2
                      clear hno
                      go_quiet (fail)
                      go_wp2_with fail
                      go_meet
                      case rel => exact ⟨by first | rfl | simp, ⟨rfl, rfl, rfl, Nat.le_refl _, fun _ _ => rfl⟩⟩
                    · have e1 : decide ((NA : Int) ≤ 160) = false := decide_eq_false (by omega)
                      have e1n : decide (NA ≤ 160) = false := decide_eq_false h1
                      clear hno
                      go_quiet (fail)
                      go_wp2_with fail
                      go_meet
                      case rel => exact ⟨by first | rfl | simp, ⟨rfl, rfl, rfl, Nat.le_refl _, fun _ _ => rfl⟩⟩
                  | true =>
                    obtain ⟨h1, h2⟩ := HSB.out.1 rfl
                    have e1 : decide ((NA : Int) ≤ 160) = true := decide_eq_true (by omega)
                    have e1n : decide (NA ≤ 160) = true := decide_eq_true h1
                    have e2 : decide ((NB : Int) ≤ 160) = true := decide_eq_true (by omega)
                    have e2n : decide (NB ≤ 160) = true := decide_eq_true h2
                    have hzz : zz = x * y := by rw [HZ.out]; rfl
                    have HM := Sealed.mk (And.intro (BF.out.1.emul (by rw [← H.out.2.2.2.1, ← H.out.2.2.2.2]; exact ⟨h1, h2⟩)) hzz)
                    clear hzz
                    have HB := Sealed.mk (below_dr (Below.refl W25.heap.size W25))
                    replace S := Sealed.mk S.out.dr
                    replace R := Sealed.mk (R.out.adv (below_drew _))
                    go_region_held3 (fun W => W.cell? ⟨w.heap.size, 0, none⟩ = some (.slice aa NA ac) ∧ W.cell? ⟨w.heap.size + 1, 0, none⟩ = some (.slice ab NB bc) ∧ W.cell? ⟨k10, 0, none⟩ = some (.pointer pz))
                      (exact ⟨(HBOX.out _ S.out.below).1, (HBOX.out _ S.out.below).2, S.out.cell 2 rfl⟩)
                      (first
                        | (go_at_call 36; go_must ((with_reducible refine (prods_row (Z := x * y) (R.out.get 2 rfl) (R.out.get 1 rfl) cntF_small cntF_small HL.out.1 HL.out.2 (by rw [← BF.out.2.1, ← BF.out.2.2.1])).mono ?_); rintro e w36 ⟨v36, r36, rfl, hr, hv, hB, hb⟩; replace S := Sealed.mk (S.out.adv hb); replace R := Sealed.mk (R.out.adv hb); replace HB := Sealed.mk (below_chain HB.out hb); have RR := Sealed.mk (And.intro hr (And.intro hv hB)); clear hr hv hB hb))
                        | (go_at_call 31; go_must ((with_reducible refine (lawIs_any (S.out.cnum 2 rfl) RR.out.1 (by rw [HM.out.2]; exact HM.out.1) RR.out.2.2 (by rw [HM.out.2]; exact RR.out.2.1)).mono ?_); rintro e w37 ⟨rfl, hb⟩; replace S := Sealed.mk (S.out.adv hb); replace R := Sealed.mk (R.out.adv hb); replace HB := Sealed.mk (below_chain HB.out hb); clear hb)))
                    all_goals
                      go_wp2_with fail
                      go_meet
                      case rel => exact ⟨by first | rfl | simp, HB.out⟩
                case rest =>
                  obtain ⟨rfl, hbc⟩ := hcut
                  obtain ⟨W26, hW26⟩ : ∃ W26, W26 = wc := ⟨_, rfl⟩
                  rw [← hW26] at hbc ⊢
                  clear hW26
                  replace S := Sealed.mk (S.out.adv hbc)
                  replace R := Sealed.mk (R.out.adv hbc)
                  clear hbc
                  obtain ⟨sg_, hsg⟩ : ∃ s, s = sg (x - y) := ⟨_, rfl⟩
                  have bS : (sg_ == sg_) = true := by simp
                  have HSG := Sealed.mk hsg; clear hsg
                  have ld0 := S.out.cell 6 rfl
                  have ld1 := S.out.cell 5 rfl
                  go_wp2_with (first
                    | (go_at_call 37; go_must (have hq := Cmp_any (S.out.cnum 6 rfl) (S.out.cnum 5 rfl); rw [← HSG.out] at hq; (with_reducible refine hq.mono ?_); clear hq; rintro e w40 ⟨rfl, hb⟩; replace S := Sealed.mk (S.out.adv hb); replace R := Sealed.mk (R.out.adv hb); clear hb))
                    | (go_at_call 35; go_must (first
                        | ((with_reducible refine (sums_row (Z := x - y) (R.out.get 2 rfl) (R.out.get 1 rfl) (.inr rfl) cntF_small cntF_small (by rw [← BF.out.2.1, ← BF.out.2.2.1]; omega)).mono ?_); rintro e w41 ⟨v41, r41, rfl, hr, hv, hB, hb⟩; replace S := Sealed.mk (S.out.adv hb); replace R := Sealed.mk (R.out.adv hb); have RR := Sealed.mk (And.intro hr (And.intro hv hB)); clear hr hv hB hb)
                        | ((with_reducible refine (sums_row (Z := -x) (IntsAt.nil _) (R.out.get 2 rfl) (.inr rfl) (by simp) cntF_small (by rw [← BF.out.2.1]; simp only [vl]; omega)).mono ?_); rintro e w42 ⟨v42, r42, rfl, hr, hv, hB, hb⟩; replace S := Sealed.mk (S.out.adv hb); replace R := Sealed.mk (R.out.adv hb); have RN := Sealed.mk (And.intro hr (And.intro hv hB)); clear hr hv hB hb)))
                    | (go_at_call 38; go_must (have hq := rSigned_any RR.out.1 (fun z hz => by have := RR.out.2.2 z hz; omega); rw [RR.out.2.1, ← HSG.out] at hq; (with_reducible refine hq.mono ?_); clear hq; rintro e w43 ⟨rfl, hb⟩; replace S := Sealed.mk (S.out.adv hb); replace R := Sealed.mk (R.out.adv hb); clear hb; have lz0 := S.out.cell 0 rfl; have lz6 := S.out.cell 6 rfl))
                    | (go_at_call 20; go_must (have hq := lawSame_any (S.out.cnum 0 rfl) (S.out.cnum 6 rfl); rw [decide_eq_true (rfl : x = x)] at hq; (with_reducible refine hq.mono ?_); clear hq; rintro e w44 ⟨rfl, hb⟩; replace S := Sealed.mk (S.out.adv hb); replace R := Sealed.mk (R.out.adv hb); clear hb; have ly6 := S.out.cell 6 rfl))
                    | (go_at_call 39; go_must ((with_reducible refine (Neg_one (S.out.cnum 6 rfl)).mono ?_); rintro e w45 ⟨p45, rfl, hb, hn⟩; replace S := Sealed.mk (S.out.res hb hn); replace R := Sealed.mk (R.out.adv hb); clear hb hn))
                    | (go_at_call 31; go_must ((with_reducible refine (lawIs_any (S.out.num 0 rfl) RN.out.1 BF.out.1.eneg RN.out.2.2 RN.out.2.1).mono ?_); rintro e w46 ⟨rfl, hb⟩; replace S := Sealed.mk (S.out.adv hb); replace R := Sealed.mk (R.out.adv hb); clear hb))
                    | (go_at_call 15; go_must ((with_reducible refine (awake1_any _).mono ?_); rintro e w999 ⟨rfl, hb⟩; replace S := Sealed.mk (S.out.adv hb); clear hb)))
                  go_ret
                  exact ⟨rfl, below_chain H.out.1 S.out.below⟩

end Go.Proofs.Ytgchfbfgjanaiaa

namespace Go.Proofs.Ytgchfbfgjanaiaa.RowK
open Go.ChangeShapes Go.WideShapes Go.ChangeAt Go.RowKit Sr
set_option linter.unusedVariables false

section
variable {H : Type} {enc : TypeId × Value → H} {W : World} {base : Nat} {sp : Nat → Bool} {held : Bool}

theorem cells_i8 : Try.prog.cellsOf 79 = 1 := by kernel_rfl

theorem wf8 {n : Int} (h : (Lit.int .i8 n).wf = true) : -128 ≤ n ∧ n ≤ 127 := by
  have := h
  simp [Lit.wf, go_sem] at this
  exact this
theorem wfu8 {n : Int} (h : (Lit.int .u8 n).wf = true) : 0 ≤ n ∧ n ≤ 255 := by
  have := h
  simp [Lit.wf, go_sem] at this
  exact this

theorem open_i8s {v : Value} {d : DataW H} {p : List MemPlace} (hv : ∃ a n c, v = .slice a n c) (h : DataW.Trod enc Try.prog W 0 (fun _ => true) true 54 v d p) : ∃ l, I8At W v l := by
  obtain ⟨a, n, c, rfl⟩ := hv
  obtain ⟨fuel, h⟩ := h
  rcases Go.Deep.open_slice Try.underlying54 h with ⟨e, -⟩ | ⟨a', len, cap, m, k, D, Pl, e, -, hl, hm, hmc, -, hel⟩
  · simp [Value.cells] at e
    obtain ⟨rfl, rfl, rfl⟩ := e
    exact ⟨[], none, 0, rfl, Nat.le_refl _, fun t ht => by simp at ht, fun hne => absurd rfl hne⟩
  · simp [Value.cells] at e
    obtain ⟨rfl, rfl, rfl⟩ := e
    simp only [if_true] at hmc
    subst hmc
    rw [cells_i8] at hel
    have key : ∀ i, i < n → ∃ t : Int, (-128 ≤ t ∧ t ≤ 127) ∧ a'.spot = none ∧ a'.block < W.heap.size ∧ W.cell? ⟨a'.block, a'.off + i, none⟩ = some (.int .i8 t) := fun i hi => by
      obtain ⟨cs, h1, h2⟩ := hel i (by omega)
      obtain ⟨z, rfl, -, hw⟩ := DataW.trod_int Try.underlying79 h2
      obtain ⟨-, -, hc⟩ := World.cells?_some h1
      have c0 := hc 0 (by decide)
      have hs0 : a'.spot = none := by
        obtain ⟨cs0, g1, g2⟩ := hel 0 (by omega)
        obtain ⟨z0, rfl, -, -⟩ := DataW.trod_int Try.underlying79 g2
        obtain ⟨-, -, gc⟩ := World.cells?_some g1
        exact World.cell?_spot (by simpa [Addr.add] using gc 0 (by decide))
      obtain ⟨ab, ao, as_⟩ := a'
      simp only at hs0
      subst hs0
      rw [add_off] at c0
      rw [add_off] at c0
      have c0' : W.cell? ⟨ab, ao + i, none⟩ = some (.int .i8 z) := by simpa using c0
      exact ⟨z, wf8 hw, rfl, lt_of_cell c0', c0'⟩
    obtain ⟨f, hf⟩ := Go.Deep.choose_lt key
    refine ⟨(List.range n).map f, some a', _, by simp; rfl, by simpa using hl, fun t ht => ?_, fun hne => ?_⟩
    · obtain ⟨i, hi, rfl⟩ := List.mem_map.1 ht
      exact (hf i (List.mem_range.1 hi)).1
    · have hn : 0 < n := by
        rcases Nat.eq_zero_or_pos n with h0 | h0
        · subst h0; exact absurd rfl hne
        · exact h0
      obtain ⟨ab, ao, as_⟩ := a'
      obtain ⟨-, hs, hb, -⟩ := hf 0 hn
      simp only at hs
      subst hs
      refine ⟨ab, ao, rfl, hb, fun i t ht => ?_⟩
      have hi : i < n := by
        have := (List.getElem?_eq_some_iff.1 ht).1
        simpa using this
      rw [List.getElem?_map, List.getElem?_range hi] at ht
      simp at ht
      subst ht
      exact (hf i hi).2.2.2

set_option maxRecDepth 100000 in
theorem open_u8 {r : Reach} {b : Nat} {v : Value} {d : DataW H} {p : List MemPlace} (hv : Value.okWide Try.prog W r b 5 v) (h : DataW.Trod enc Try.prog W 0 (fun _ => true) true 5 v d p) :
    ∃ n : Nat, v = .int .u8 (n : Int) ∧ n ≤ 255 := by
  obtain ⟨n, rfl⟩ := okWide_int Try.underlying5 hv
  obtain ⟨fuel, h⟩ := h
  obtain ⟨n', e, -, hw⟩ := DataW.trod_int Try.underlying5 h
  obtain rfl : n = n' := by simpa [Value.cells] using e
  obtain ⟨h1, h2⟩ := wfu8 hw
  exact ⟨n.toNat, by rw [Int.toNat_of_nonneg h1], by omega⟩

end

end Go.Proofs.Ytgchfbfgjanaiaa.RowK

namespace Go.Proofs.Ytgchfbfgjanaiaa.RowK
open Go.ChangeShapes Go.WideShapes Go.ChangeAt Go.RowKit Sr
set_option linter.unusedVariables false

section
variable {H : Type} {enc : TypeId × Value → H} {W : World} {base : Nat} {sp : Nat → Bool} {held : Bool}

theorem cells_pack : Try.prog.cellsOf 56 = 1 := by kernel_rfl
theorem cells_i8s : Try.prog.cellsOf 54 = 1 := by kernel_rfl

set_option maxRecDepth 100000 in
theorem open_pack {r : Reach} {b : Nat} {v : Value} {d : DataW H} {p : List MemPlace} (hv : Value.okWide Try.prog W r b 56 v) (h : DataW.Trod enc Try.prog W 0 (fun _ => true) true 56 v d p) :
    ∃ s l, v = .agg #[s] ∧ I8At W s l := by
  obtain ⟨cs, rfl, hcs⟩ := okWide_struct Try.underlying56 hv
  rw [cells_pack] at hcs
  obtain ⟨l⟩ := cs
  match l, hcs with
  | [c0], _ =>
    obtain ⟨fuel, h⟩ := h
    cases fuel with
    | zero => simp [DataW.trod] at h
    | succ n =>
      unfold DataW.trod at h
      rw [Try.underlying56] at h
      simp only at h
      split at h
      · rename_i hl
        obtain ⟨xs, hxs, -⟩ := Option.map_eq_some_iff.1 h
        obtain ⟨y0, h0⟩ := mapM_all hxs _ (List.mem_of_getElem? (i := 0) rfl)
        simp only [cells_i8s, Value.cells] at h0
        have h0' : DataW.trod enc Try.prog W 0 (fun _ => true) true n 54 [c0] = some y0 := by simpa using h0
        have hsl : ∃ a n c, c0 = .slice a n c := by
          rcases Go.Deep.open_slice Try.underlying54 h0' with ⟨e, -⟩ | ⟨a', len, cap, m, k, D, Pl, e, -⟩
          · simp at e
            exact ⟨_, _, _, e⟩
          · simp at e
            exact ⟨_, _, _, e⟩
        obtain ⟨a, m, c, rfl⟩ := hsl
        obtain ⟨l, hl⟩ := open_i8s (enc := enc) (W := W) (v := .slice a m c) (d := y0.1) (p := y0.2) ⟨a, m, c, rfl⟩ ⟨n, by simpa [Value.cells] using h0'⟩
        exact ⟨_, l, rfl, hl⟩
      · exact absurd h (by simp)

end

end Go.Proofs.Ytgchfbfgjanaiaa.RowK
