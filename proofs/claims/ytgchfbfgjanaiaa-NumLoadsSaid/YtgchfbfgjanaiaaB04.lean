/-
 (*sandreckonerref01.World).plus, whole, and next
 (*sandreckonerref01.World).Sum, Power
 (*sandreckonerref01.World).Neg
 a universe for what the reference's sums ask for: plain, but for the words RNextIn, SumAsk
 plain facts for the laws of law01
 (*sandreckonerref01.World).Of
 the reference's Int: plain
 parts of a number among the forms of a world: plain
 (*sandreckonerref01.World).Int
-/
import Derived.Test.YtgchfbfgjanaiaaB03
import Derived.Test.YtgchfbfgjanaiaaA26
import Derived.Test.YtgchfbfgjanaiaaA24
import Derived.Test.YtgchfbfgjanaiaaA34
import Derived.Test.YtgchfbfgjanaiaaA01
import Derived.Deep.LoopGhost
import Derived.Deep.DeepCutAuto
import Derived.Deep.CutBlock
import Derived.Deep.CutRange
import Derived.BigRegion
set_option linter.unusedSimpArgs false
set_option linter.unusedVariables false
namespace Go.Proofs.Ytgchfbfgjanaiaa
open Go.RowKit Sr
theorem split_exp (e : Nat) : ∀ (L : List T), Gap L → ∃ A B, L = A ++ B ∧ (∀ s ∈ A, e < s.2) ∧ ∀ s ∈ B, s.2 ≤ e
 | [], _ => ⟨[], [], rfl, by simp, by simp⟩
 | t :: L, g => by
   obtain ⟨g1, g2⟩ := gap_cons.1 g
   by_cases h : e < t.2
   ·obtain ⟨A, B, rfl, h1, h2⟩ := split_exp e L g2
    refine ⟨t :: A, B, rfl, fun s hs => ?_, h2⟩
    rcases List.mem_cons.1 hs with rfl | hs
    ·exact h
    ·exact h1 s hs
   ·refine ⟨[], t :: L, rfl, by simp, fun s hs => ?_⟩
    rcases List.mem_cons.1 hs with rfl | hs
    ·omega
    ·have := g1 s hs; omega
theorem rplus_any {U : List Int} : ∀ (n : Nat) {L : List T} {m : Bool} {e : Nat}, cnt e L < n → Gap L → L.length ≤ 90000 → (∀ q, Asks L e q → RNext U q) → ∀ {w : World} {b : RB} {vs : List Int} {v : Value} {i : Nat}, RInv w b vs U → RTL w v (encL vs L) → CovL vs L → vs[i]? = some (e : Int) →
  Calls Try.prog 67 #[.pointer (some ⟨b.p, 0, none⟩), v, .agg #[.bool m, .int .i64 (i : Int)]] w (PlsOut U w b vs (val L + tv (m, e)))
 | 0, _, _, _, h, _, _, _, _, _, _, _, _, _, _, _, _ => absurd h (by omega)
 | n + 1, L, m, e, hc, g, hl, hN, w, b, vs, v, i, hi, hr, hcv, hp => by
   obtain ⟨A, B, hAB, hA, hB⟩ := split_exp e L g
   exact rplus_step hAB hA hB g hl hN (fun L' m' e' h1 g' h2 hN' {w b vs v i} hi hr hcv hp => rplus_any n (by omega) g' (by omega) hN' hi hr hcv hp) hi hr hcv hp
theorem rplus_at {U : List Int} {L : List T} {m : Bool} {e : Nat} (g : Gap L) (hl : L.length ≤ 90000) (hN : ∀ q, Asks L e q → RNext U q) {w : World} {b : RB} {vs : List Int} {v : Value} {i : Nat} (hi : RInv w b vs U) (hr : RTL w v (encL vs L)) (hc : CovL vs L) (hp : vs[i]? = some (e : Int)) :
  Calls Try.prog 67 #[.pointer (some ⟨b.p, 0, none⟩), v, .agg #[.bool m, .int .i64 (i : Int)]] w (PlsOut U w b vs (val L + tv (m, e))) :=
 rplus_any _ (Nat.lt_succ_self _) g hl hN hi hr hc hp
inductive RNextIn (U : List Int) : Nat → Prop
 | mk (p : Nat) : ((p : Int) + 1) ∈ U → (form (p : Int)).length ≤ 90000 → (∀ q, Asks (form (p : Int)) 0 q → RNextIn U q) → RNextIn U p
def AtOut (U : List Int) (w : World) (b : RB) (vs : List Int) (x : Int) (e : Ending) (w' : World) : Prop :=
 ∃ vs' b' j, e = .returned (.int .i64 ((j : Nat) : Int)) ∧ vs'[j]? = some x ∧ RStep U w w' b b' vs vs'
theorem rAt_at {U vs : List Int} {b : RB} {x : Int} {w : World} {v : Value} (h : RInv w b vs U) (hl : RTL w v (encL vs (form x))) (hc : CovL vs (form x)) (hU : x ∈ U) :
  Calls Try.prog 50 #[.pointer (some ⟨b.p, 0, none⟩), v] w (AtOut U w b vs x) :=
 (rAt_any h hl hc hU).mono fun e w' he => by
  obtain ⟨vs', b', rfl, hx, hs⟩ := he
  exact ⟨vs', b', _, rfl, idxOf_get hx, hs⟩
set_option maxRecDepth 100000 in
set_option maxHeartbeats 4000000 in
theorem rnext_walk {U : List Int} {p : Nat} (hU : ((p : Int) + 1) ∈ U) (hlen : (form (p : Int)).length ≤ 90000) (hN : ∀ q, Asks (form (p : Int)) 0 q → RNext U q) : RNext U p := by
 intro w b vs i h hi
 obtain ⟨cap, a, c, f0, hcap, hil, f1, ht, -⟩ := h.form hi
 have hcv : CovL vs (form (p : Int)) := h.cl.cov (List.mem_of_getElem? hi)
 have hpl := rplus_at (m := false) (e := 0) (gap_form p) hlen hN h ht hcv (by simpa using h.cl.zero)
 have hv : val (form (p : Int)) + tv (false, 0) = (p : Int) + 1 := by rw [val_form]; simp [tv]
 rw [hv] at hpl
 simp only [Int.natCast_zero] at hpl
 obtain ⟨n, hn⟩ : ∃ n, n = (enc vs (p : Int)).length := ⟨_, rfl⟩
 rw [← hn] at hpl f1
 have HP := Sealed.mk (And.intro hpl hU)
 clear hpl hU hv hcv ht hn hN hlen hi h
 go_enter Try.func68, Try.ntmps68
 go_wp2_with (first
  | (go_at_call 67; go_must ((with_reducible refine HP.out.1.mono ?_); rintro e1 w1 ⟨vs1, b1, v1, rfl, hl1, hc1, hs1⟩; have hat := rAt_at hs1.inv hl1 hc1 HP.out.2; rw [hs1.p] at hat; have HA := Sealed.mk (And.intro hat hs1); clear hat hl1 hc1 hs1))
  | (go_at_call 50; go_must ((with_reducible refine HA.out.1.mono ?_); rintro e2 w2 ⟨vs2, b2, j, rfl, hj, hs2⟩; have HR := Sealed.mk (And.intro hj (HA.out.2.trans hs2)); clear hj hs2)))
 go_ret
 exact ⟨vs2, b2, j, rfl, HR.out.1, HR.out.2⟩
theorem rnext_any {U : List Int} {p : Nat} (h : RNextIn U p) : RNext U p := by
 induction h with
 | mk p h1 h2 _ ih => exact rnext_walk h1 h2 ih
end Go.Proofs.Ytgchfbfgjanaiaa

namespace Go.Proofs.Ytgchfbfgjanaiaa
open Go.RowKit Sr
def SumAsk (U : List Int) (l : List T) : Prop := ∀ (k : Nat) (t : T), l[k]? = some t → (form (val (l.take k))).length ≤ 90000 ∧ ∀ q, Asks (form (val (l.take k))) t.2 q → RNext U q
theorem form_pow2' (e : Nat) : form (2 ^ e) = [(false, e)] := form_of ⟨e + 1, by simp [Under]⟩ (by simp [val, tv])
set_option maxRecDepth 100000 in
set_option maxHeartbeats 1000000 in
theorem rPower_any {U : List Int} {w : World} {b : RB} {vs : List Int} {i e : Nat} (h : RInv w b vs U) (hi : vs[i]? = some (e : Int)) (hU : (2 : Int) ^ e ∈ U) :
  Calls Try.prog 26 #[.pointer (some ⟨b.p, 0, none⟩), .int .i64 (i : Int)] w (AtOut U w b vs (2 ^ e)) := by
 obtain ⟨W1, hW1⟩ : ∃ W1, W1 = w.alloc (.cells #[.bool false, .int .i64 (i : Int)] 49) := ⟨_, rfl⟩
 have hb1 : Below w.heap.size w W1 := by rw [hW1]; exact (Below.refl _ _).alloc (Nat.le_refl _) _
 have hix : vs.idxOf (e : Int) = i := idxOf_of h.cl.nodup hi
 have hl : RTL W1 (.slice (some ⟨w.heap.size, 0, none⟩) 1 1) (encL vs (form (2 ^ e))) := by
  have e1 : encL vs (form (2 ^ e)) = [(false, i)] := by rw [form_pow2']; simp [encL, hix]
  rw [e1, hW1]
  refine ⟨by simp, fun q hq => ?_, _, 1, rfl, by simp, fun _ => ⟨w.heap.size, 0, rfl, ?_, ⟨_, _, blk_alloc _ _⟩⟩⟩
  ·have : w.heap.size = q := Option.some.inj hq
   subst this; simp
  ·exact lit_reads (blk_alloc _ _)
 have hat := rAt_at (h.below hb1) hl (fun t ht => by rw [form_pow2'] at ht; simp at ht; subst ht; exact List.mem_of_getElem? hi) hU
 have HA := Sealed.mk (And.intro hat (RStep.kept h hb1))
 clear hat hl hix hb1 h hi hU
 go_enter Try.func26, Try.ntmps26
 go_upto_region 1 with fail
 rw [hW1] at HA
 clear hW1
 go_wp2_with (go_at_call 50; go_must ((with_reducible refine HA.out.1.mono ?_); rintro e2 w2 ⟨vs2, b2, j, rfl, hj, hs2⟩; have HF := Sealed.mk (And.intro hj (HA.out.2.trans hs2)); clear hj hs2))
 go_ret
 exact ⟨vs2, b2, j, rfl, HF.out.1, HF.out.2⟩
end Go.Proofs.Ytgchfbfgjanaiaa

namespace Go.Proofs.Ytgchfbfgjanaiaa
open Go.RowKit Sr
set_option maxRecDepth 100000 in
set_option maxHeartbeats 4000000 in
theorem rNeg_any {U : List Int} {w : World} {b : RB} {vs : List Int} {i : Nat} {x : Int} (h : RInv w b vs U) (hi : vs[i]? = some x) (hU : -x ∈ U) :
  Calls Try.prog 95 #[.pointer (some ⟨b.p, 0, none⟩), .int .i64 (i : Int)] w (AtOut U w b vs (-x)) := by
 have hil : i < vs.length := (List.getElem?_eq_some_iff.1 hi).1
 have hcv : Cov vs x := h.cl.cov (List.mem_of_getElem? hi)
 obtain ⟨cap, a, c, f0, hcap, -, f1, ht, -⟩ := h.form hi
 obtain ⟨l, hl⟩ : ∃ l, l = enc vs x := ⟨_, rfl⟩
 rw [← hl] at f1 ht
 obtain ⟨n, hn⟩ : ∃ n, n = l.length := ⟨_, rfl⟩
 have hn1 : n ≤ 100000 := by rw [hn]; exact ht.1
 rw [← hn] at f1 ht
 have d0 : (w.alloc (.cells #[] 49)).cell? ⟨b.p, 0, none⟩ = some (.slice (some ⟨b.f, 0, none⟩) vs.length cap) := (cell_same (Below.heap_alloc _ _ _ (lt_of_cell f0)) 0).trans f0
 have d1 : (w.alloc (.cells #[] 49)).cell? ⟨b.f, i, none⟩ = some (.slice a n c) := (cell_same (Below.heap_alloc _ _ _ (lt_of_cell f1)) i).trans f1
 have htA := ht.below (r_al (o := .cells #[] 49) (Below.refl _ _))
 have H := Sealed.mk (And.intro h (And.intro hi (And.intro hU (And.intro hcv (And.intro hl (And.intro hn htA))))))
 clear h hi hU hcv hl ht htA f0 f1 hn
 go_enter Try.func95, Try.ntmps95
 go_upto_region 2 with (at_builtin; go_must (refine ap_rtl (l2 := l) (.tmp 7) (.tmp 14) rfl rfl rfl (own_empty (Nat.le_refl _) _ rfl) rfl H.out.2.2.2.2.2.2 ?g1 ?g2 ?g3))
 case g1 => rw [← H.out.2.2.2.2.2.1]; omega
 case g2 => simp
 case g3 =>
  intro v1 w1 ho1 hg1 _
  have hb1 : Below w.heap.size w w1 := ((Below.refl _ _).alloc (Nat.le_refl _) _).grown hg1 (by simp) fun q hq => Nat.le_of_eq (Option.some.inj hq)
  have ho1' : w1.ownsRow w.heap.size 49 2 v1 n (tcells l) := by
   have := ho1
   try rw [← H.out.2.2.2.2.2.1] at this
   simpa using this
  obtain ⟨a1, c1, rfl⟩ := own_slice ho1'
  have HO := Sealed.mk (And.intro ho1' hb1); clear ho1 ho1' hg1 hb1 d0 d1
  go_wp2_with fail
  go_loopg [6] n (fun jj iv W => ∃ k : Nat, jj = n - k ∧ k ≤ n ∧ iv = .int .i64 (k : Int) ∧ Sealed (W.ownsRow w.heap.size 49 2 (.slice a1 n c1) n (tcells (negTo l k)) ∧ Below w.heap.size w W))
  case atStart => exact ⟨0, rfl, Nat.zero_le _, rfl, ⟨by simpa [negTo, negT] using HO.out.1, HO.out.2⟩⟩
  case round =>
   obtain ⟨k, rfl, hk, rfl, HR⟩ := hrel
   by_cases hkl : k < n
   ·obtain ⟨t, ht⟩ : ∃ t, l[k]? = some t := ⟨_, List.getElem?_eq_getElem (by have := H.out.2.2.2.2.2.1; omega)⟩
    obtain ⟨g, cap', e1⟩ := own_form HR.out.1 (by omega)
    obtain ⟨rfl, _, rfl⟩ := Value.slice.inj e1
    have ht' := negTo_at ht
    have h1 := own_cell HR.out.1 (b := g) rfl (tcells_at _ k t ht').1
    have h2 := own_free HR.out.1 (b := g) rfl (k * 2)
    have hkl' : (k : Int) < (n : Int) := by omega
    have HT := Sealed.mk (And.intro ht ht'); clear ht ht' e1
    go_wp2_with fail
    go_roundg (n - (k + 1))
    case measure => omega
    case rel => exact ⟨k + 1, rfl, by omega, by push_cast; rfl, ⟨by rw [negTo_succ HT.out.1, tcells_set1 _ _ _ _ HT.out.2]; exact own_set HR.out.1 rfl (by omega) _, HR.out.2.setCell (own_ge HR.out.1 g rfl) _⟩⟩
   ·obtain rfl : k = n := by omega
    have hrow := HR.out.1
    have hne : tcells (negTo l k) = tcells (encL vs (form (-x))) := by
     have e1 : negTo l k = negT l := by unfold negTo; rw [H.out.2.2.2.2.2.1]; simp
     rw [e1, H.out.2.2.2.2.1, form_neg, ← negT_encL]; rfl
    have hll : (encL vs (form (-x))).length = k := by rw [encL_length, form_neg, H.out.2.2.2.2.2.1, H.out.2.2.2.2.1]; simp [neg, enc]
    rw [hne] at hrow
    have hrt : RTL wr (.slice a1 k c1) (encL vs (form (-x))) := by
     rw [← hll] at hrow
     have := RTL.of_own hrow (by omega)
     rwa [hll] at this
    have hcn : CovL vs (form (-x)) := fun t ht => by
     rw [form_neg] at ht
     unfold neg at ht
     obtain ⟨s, hs, rfl⟩ := List.mem_map.1 ht
     exact H.out.2.2.2.1 s hs
    have hat := rAt_at (H.out.1.below HR.out.2) hrt hcn H.out.2.2.1
    have HA := Sealed.mk (And.intro hat (RStep.kept H.out.1 HR.out.2))
    clear hat hrt hcn hrow hne hll HR
    go_wp2_with (go_at_call 50; go_must ((with_reducible refine HA.out.1.mono ?_); rintro e2 w2 ⟨vs2, b2, j, rfl, hj, hs2⟩; have HF := Sealed.mk (And.intro hj (HA.out.2.trans hs2)); clear hj hs2))
    go_ret
    exact ⟨vs2, b2, j, rfl, HF.out.1, HF.out.2⟩
end Go.Proofs.Ytgchfbfgjanaiaa

namespace Go.Proofs.Ytgchfbfgjanaiaa
open Go.RowKit Sr
def covR (P : List Nat) (N : Nat) : List Int := (P.flatMap fun p => (List.range (2 * N + 40)).map fun k => ((p + k : Nat) : Int)) ++ (List.range (4 * N + 1600)).map fun n : Nat => (n : Int)
theorem covR_at {P : List Nat} {N p k : Nat} (hp : p ∈ P) (hk : k < 2 * N + 40) : ((p + k : Nat) : Int) ∈ covR P N := by
 unfold covR
 refine List.mem_append.2 (.inl (List.mem_flatMap.2 ⟨p, hp, List.mem_map.2 ⟨k, List.mem_range.2 hk, rfl⟩⟩))
theorem covR_low {P : List Nat} {N n : Nat} (hn : n < 4 * N + 1600) : (n : Int) ∈ covR P N := by
 unfold covR
 exact List.mem_append.2 (.inr (List.mem_map.2 ⟨n, List.mem_range.2 hn, rfl⟩))
theorem covR_length (P : List Nat) (N : Nat) : (covR P N).length ≤ P.length * (2 * N + 40) + (4 * N + 1600) := by
 have := flat_length (fun p : Nat => (List.range (2 * N + 40)).map fun k => ((p + k : Nat) : Int)) (2 * N + 40) P (fun a _ => by simp)
 unfold covR
 simp only [List.length_append, List.length_map, List.length_range]
 omega
theorem exps_million {n e : Nat} (hn : n ≤ 1000000) (he : e ∈ exps (n : Int)) : e ≤ 20 := by
 have h1 := exps_pow he
 apply Classical.byContradiction
 intro hge
 have h2 := pow_mono (show 22 ≤ e + 1 by omega)
 have h3 : (2 : Int) ^ 22 = 4194304 := by decide
 simp at h1
 omega
theorem wl_million {n : Nat} (hn : n ≤ 1000000) : (form (n : Int)).length ≤ 21 := form_length_le fun e he => by have := exps_million hn he; omega
theorem rhull_next {P : List Nat} (h : Hull P) {N : Nat} (hN : N ≤ 40000) {U : List Int} (hU : ∀ x ∈ covR P N, x ∈ U) (n : Nat) : (∃ p ∈ P, ∃ k, k < 2 * N + 39 ∧ n = p + k) ∨ n < 4 * N + 1599 → RNextIn U n := by
 induction n using Nat.strongRecOn with
 | _ n ih =>
   intro hn
   have hlen : (form (n : Int)).length ≤ 2 * N + 770 := by
    rcases hn with ⟨p, hp, k, hk, rfl⟩ | hn
    ·have h1 := wl_addn (p : Int) k
     have h2 := h.len p hp
     rw [← Int.natCast_add] at h1
     unfold wl at h1 h2
     omega
    ·have := wl_million (n := n) (by omega)
     omega
   refine .mk n ?_ (by omega) ?_
   ·rcases hn with ⟨p, hp, k, hk, rfl⟩ | hn
    ·have := hU _ (covR_at hp (show k + 1 < 2 * N + 40 by omega))
     rw [show ((p + (k + 1) : Nat) : Int) = ((p + k : Nat) : Int) + 1 by omega] at this
     exact this
    ·have := hU _ (covR_low (N := N) (P := P) (show n + 1 < 4 * N + 1600 by omega))
     simpa using this
   ·intro q hq
    obtain ⟨hlt, hq⟩ := asks_form hq
    refine ih q hlt ?_
    rcases hq with hq | hq
    ·rcases hn with ⟨p, hp, k, hk, rfl⟩ | hn
     ·rw [Int.natCast_add] at hq
      rcases exps_addn (p : Int) k _ hq with h1 | h1
      ·exact .inl ⟨q, h.up p hp _ h1, 0, by omega, rfl⟩
      ·have h2 := h.len p hp
       unfold wl at h1 h2
       exact .inr (by omega)
     ·have := exps_million (n := n) (by omega) hq
      exact .inr (by omega)
    ·rcases hn with ⟨p, hp, k, hk, rfl⟩ | hn
     ·have h1 := wl_addn (p : Int) k
      have h2 := h.len p hp
      rw [← Int.natCast_add] at h1
      unfold wl at h1 h2
      exact .inr (by omega)
     ·have := wl_million (n := n) (by omega)
      exact .inr (by omega)
theorem hull_nil : Hull [] := ⟨fun p hp => by simp at hp, fun p hp => by simp at hp⟩
theorem rnext_small {U : List Int} (hU : ∀ x ∈ covR [] 0, x ∈ U) {n : Nat} (hn : n < 1599) : RNext U n := rnext_any (rhull_next hull_nil (by omega) hU n (.inr (by omega)))
end Go.Proofs.Ytgchfbfgjanaiaa

namespace Go.Proofs.Ytgchfbfgjanaiaa
open Go.RowKit Sr
end Go.Proofs.Ytgchfbfgjanaiaa

namespace Go.Proofs.Ytgchfbfgjanaiaa
open Go.RowKit Sr
def lowZ (neg : Bool) (m s : Nat) : Int := if neg = true then -((m % 2 ^ s : Nat) : Int) else ((m % 2 ^ s : Nat) : Int)
def highZ (neg : Bool) (m s : Nat) : Int := if neg = true then -((m / 2 ^ s : Nat) : Int) else ((m / 2 ^ s : Nat) : Int)
theorem mod_succ (m s : Nat) : m % 2 ^ (s + 1) = m % 2 ^ s + (m / 2 ^ s % 2) * 2 ^ s := by
 rw [Nat.pow_succ, Nat.mod_mul, Nat.mul_comm (2 ^ s)]
theorem lowZ_succ (neg : Bool) (m s : Nat) : lowZ neg m (s + 1) = if m / 2 ^ s % 2 = 1 then lowZ neg m s + tv (neg, s) else lowZ neg m s := by
 have h := mod_succ m s
 have h2 : m / 2 ^ s % 2 = 0 ∨ m / 2 ^ s % 2 = 1 := by omega
 have hp : (((2 : Nat) ^ s : Nat) : Int) = (2 : Int) ^ s := by simp
 unfold lowZ tv
 rw [h]
 rcases h2 with h2 | h2
 ·rw [h2, if_neg (show ¬ (0 : Nat) = 1 by decide), Nat.zero_mul, Nat.add_zero]
 ·rw [h2, if_pos rfl, Nat.one_mul]
  cases neg
  ·simp only [Bool.false_eq_true, if_false, Int.natCast_add, hp]
  ·simp only [if_true, Int.natCast_add, hp]; omega
theorem lowZ_abs (neg : Bool) (m s : Nat) : (lowZ neg m s).natAbs < 2 ^ s := by
 have := Nat.mod_lt m (show 0 < 2 ^ s from Nat.pow_pos (by decide))
 unfold lowZ
 split <;> omega
theorem exps_lowZ {neg : Bool} {m s e : Nat} (h : e ∈ exps (lowZ neg m s)) : e ≤ s := by
 have h1 := exps_pow h
 have h2 := lowZ_abs neg m s
 apply Classical.byContradiction
 intro hge
 have h3 := pow_mono (show s + 2 ≤ e + 1 by omega)
 have h4 : (2 : Int) ^ (s + 2) = 4 * 2 ^ s := by rw [pow_succ', pow_succ']; omega
 have hp : (((2 : Nat) ^ s : Nat) : Int) = (2 : Int) ^ s := by simp
 have h5 : ((lowZ neg m s).natAbs : Int) < 2 ^ s := by rw [← hp]; exact_mod_cast h2
 omega
theorem lowZ_asks {U : List Int} (hU : ∀ x ∈ covR [] 0, x ∈ U) {neg : Bool} {m s : Nat} (hs : s ≤ 64) : (form (lowZ neg m s)).length ≤ 65 ∧ ∀ q, Asks (form (lowZ neg m s)) s q → RNext U q := by
 have hl : (form (lowZ neg m s)).length ≤ 65 := form_length_le fun e he => by have := exps_lowZ he; omega
 refine ⟨hl, fun q hq => rnext_small hU ?_⟩
 rcases hq.1 with ⟨t, ht, rfl⟩ | ⟨h1, h2⟩
 ·have := exps_lowZ (mem_exps.2 ⟨t, ht, rfl⟩)
  omega
 ·have := cnt_le s (form (lowZ neg m s))
  omega
set_option maxRecDepth 100000 in
set_option maxHeartbeats 4000000 in
theorem rOf_any {U : List Int} {w : World} {b : RB} {vs : List Int} {n : Int} (h : RInv w b vs U) (hn : Is64 n) (hU : ∀ x ∈ covR [] 0, x ∈ U) (hnU : n ∈ U) :
  Calls Try.prog 24 #[.pointer (some ⟨b.p, 0, none⟩), .int .i64 n] w (AtOut U w b vs n) := by
 obtain ⟨W0, hW0⟩ : ∃ W0, W0 = w.alloc (.cells #[] 49) := ⟨_, rfl⟩
 have hb0 : Below w.heap.size w W0 := by rw [hW0]; exact (Below.refl _ _).alloc (Nat.le_refl _) _
 obtain ⟨m, hm⟩ : ∃ m, m = n.natAbs := ⟨_, rfl⟩
 obtain ⟨neg, hneg⟩ : ∃ neg : Bool, neg = decide (n < 0) := ⟨_, rfl⟩
 have hm63 : m ≤ 2 ^ 63 := by rw [hm]; have := hn.1; have := hn.2; omega
 have hnm : n = if neg = true then -(m : Int) else (m : Int) := by
  rw [hneg, hm]
  by_cases h0 : n < 0
  ·simp only [h0, decide_true, if_true]; omega
  ·simp only [h0, decide_false, Bool.false_eq_true, if_false]; omega
 have hl0 : RTL W0 (.slice (some ⟨w.heap.size, 0, none⟩) 0 0) (encL vs (form (lowZ neg m 0))) := by
  have e : encL vs (form (lowZ neg m 0)) = [] := by
   have : lowZ neg m 0 = 0 := by unfold lowZ; rw [Nat.pow_zero, Nat.mod_one]; split <;> rfl
   rw [this, form_zero]; rfl
  rw [e, hW0]
  have h1 := own_empty (w := w) (B := w.heap.size) (e := 49) (size := 2) (Nat.le_refl _) #[] rfl
  exact RTL.of_own (B := w.heap.size) h1 (by simp)
 have hc0 : CovL vs (form (lowZ neg m 0)) := by
  have : lowZ neg m 0 = 0 := by unfold lowZ; rw [Nat.pow_zero, Nat.mod_one]; split <;> rfl
  rw [this, form_zero]; intro t ht; simp at ht
 have hh0 : highZ neg m 0 = n := by unfold highZ; rw [hnm, Nat.pow_zero, Nat.div_one]
 have H := Sealed.mk (And.intro h (And.intro hb0 (And.intro hl0 (And.intro hc0 (And.intro hU (And.intro hnU (And.intro hm63 (And.intro hnm hh0))))))))
 clear h hb0 hl0 hc0 hU hnU hm63 hnm hh0 hm hneg hn
 go_enter Try.func24, Try.ntmps24
 go_wp2_with fail
 rw [← hW0]
 clear hW0
 go_loopg [5, 6, 7] 64 (fun jj lv zv ev W => ∃ (s i : Nat) (vs1 : List Int) (b1 : RB), jj = 64 - s ∧ s ≤ 64 ∧ zv = .int .i64 (highZ neg m s) ∧ ev = .int .i64 (i : Int) ∧ Sealed (RTL W lv (encL vs1 (form (lowZ neg m s))) ∧ CovL vs1 (form (lowZ neg m s)) ∧ RStep U W0 W b b1 vs vs1 ∧ vs1[i]? = some (s : Int)))
 case atStart => exact ⟨0, 0, vs, b, rfl, by omega, by rw [H.out.2.2.2.2.2.2.2.2], rfl, ⟨H.out.2.2.1, H.out.2.2.2.1, RStep.refl (H.out.1.below H.out.2.1), by simpa using H.out.1.cl.zero⟩⟩
 case round =>
  obtain ⟨s, i, vs1, b1, rfl, hs, rfl, rfl, HR⟩ := hrel
  obtain ⟨k, hk⟩ : ∃ k, k = m / 2 ^ s := ⟨_, rfl⟩
  obtain ⟨z, hz⟩ : ∃ z, z = highZ neg m s := ⟨_, rfl⟩
  have hzk : z = if neg = true then -(k : Int) else (k : Int) := by rw [hz, hk]; rfl
  rw [← hz]
  have hkm : k ≤ 2 ^ 63 := by rw [hk]; exact Nat.le_trans (Nat.div_le_self _ _) H.out.2.2.2.2.2.2.1
  have hnxt : highZ neg m (s + 1) = if neg = true then -((k / 2 : Nat) : Int) else ((k / 2 : Nat) : Int) := by
   unfold highZ
   rw [Nat.pow_succ, ← Nat.div_div_eq_div_mul, ← hk]
  by_cases hk0 : k = 0
  ·have hz0 : z = 0 := by rw [hzk, hk0]; split <;> rfl
   have hzb : (z == 0) = true := by rw [hz0]; rfl
   have hlow : lowZ neg m s = n := by
    have h1 : m % 2 ^ s = m := by
     have := Nat.div_add_mod m (2 ^ s)
     rw [← hk, hk0, Nat.mul_zero, Nat.zero_add] at this
     exact this
    unfold lowZ
    rw [h1]; exact H.out.2.2.2.2.2.2.2.1.symm
   have hr := HR.out
   rw [hlow] at hr
   have hat := rAt_at hr.2.2.1.inv hr.1 hr.2.1 H.out.2.2.2.2.2.1
   rw [hr.2.2.1.p] at hat
   have HA := Sealed.mk (And.intro hat hr.2.2.1)
   clear hat hr HR hz hzk hnxt hlow hk hk0 hkm
   subst hz0
   clear hzb
   go_wp2_with (go_at_call 50; go_must ((with_reducible refine HA.out.1.mono ?_); rintro e2 w2 ⟨vs2, b2, j, rfl, hj, hs2⟩; have HF := Sealed.mk (And.intro hj (((RStep.kept H.out.1 H.out.2.1).trans HA.out.2).trans hs2)); clear hj hs2))
   go_ret
   exact ⟨vs2, b2, j, rfl, HF.out.1, HF.out.2⟩
  ·have hs64 : s < 64 := by
    apply Classical.byContradiction
    intro hge
    have : s = 64 := by omega
    subst this
    have h1 := H.out.2.2.2.2.2.2.1
    have : k = 0 := by rw [hk]; exact Nat.div_eq_of_lt (by omega)
    exact hk0 this
   have hz0 : ¬ z = 0 := by rw [hzk]; split <;> omega
   have hzb : (z == 0) = false := by simpa using hz0
   have hlo := lowZ_succ neg m s
   rw [← hk] at hlo
   have hdv : z.tdiv 2 = highZ neg m (s + 1) := by
    rw [hnxt, hzk]
    cases neg
    ·simp only [Bool.false_eq_true, if_false]; rw [Int.tdiv_eq_ediv_of_nonneg (by omega)]; rfl
    ·simp only [if_true]; rw [Int.neg_tdiv, Int.tdiv_eq_ediv_of_nonneg (by omega)]; rfl
   obtain ⟨z', hz'⟩ : ∃ z', z' = highZ neg m (s + 1) := ⟨_, rfl⟩
   have hz'b : -9223372036854775808 ≤ z' ∧ z' ≤ 9223372036854775807 := by rw [hz', hnxt]; split <;> omega
   rw [← hz'] at hdv
   have hask := lowZ_asks H.out.2.2.2.2.1 (neg := neg) (m := m) hs
   have HNX : Sealed (RNext U s) := ⟨rnext_small H.out.2.2.2.2.1 (by omega)⟩
   have hcut : ∀ (odd : Bool), odd = decide (k % 2 = 1) → True := fun _ _ => trivial
   clear hcut
   by_cases hodd : k % 2 = 1
   ·rw [if_pos hodd] at hlo
    have hpl := rplus_at (m := neg) (e := s) (gap_form _) (by omega) hask.2 HR.out.2.2.1.inv HR.out.1 HR.out.2.1 HR.out.2.2.2
    rw [HR.out.2.2.1.p, val_form, ← hlo] at hpl
    have hmd : z.tmod 2 = if neg = true then -1 else 1 := by
     rw [hzk]
     cases neg
     ·simp only [Bool.false_eq_true, if_false]; rw [Int.tmod_eq_emod_of_nonneg (by omega)]; omega
     ·simp only [if_true]; rw [Int.neg_tmod, Int.tmod_eq_emod_of_nonneg (by omega)]; omega
    have hsn : decide (z < 0) = neg := by
     rw [hzk]
     cases neg
     ·first | (simp; done) | (simp; omega)
     ·first | (simp; done) | (simp; omega)
    obtain ⟨md, hmdd⟩ : ∃ md, md = z.tmod 2 := ⟨_, rfl⟩
    have hmd0 : ¬ md = 0 := by rw [hmdd, hmd]; split <;> omega
    have hmdb : (md == 0) = false := by simpa using hmd0
    have hmd2 : z.tmod 2 = md := hmdd.symm
    have HP := Sealed.mk (And.intro hpl (And.intro hz' (And.intro hmd hz'b)))
    clear hpl hask hlo hmd hmdd hz hzk hnxt hk hz' hodd hkm
    go_wp2_with (first
     | (go_at_call 67; go_must ((with_reducible refine HP.out.1.mono ?_); rintro e1 w1 ⟨vs2, b2, v1, rfl, hl1, hc1, hs1⟩; have hq := RNext.call HNX.out hs1.inv (pre_get hs1.pre HR.out.2.2.2); rw [hs1.p, HR.out.2.2.1.p] at hq; have HQ := Sealed.mk (And.intro hl1 (And.intro hc1 (And.intro hs1 hq))); clear hl1 hc1 hs1 hq))
     | (go_at_call 68; go_must ((with_reducible refine HQ.out.2.2.2.mono ?_); rintro e2 w2 ⟨vs3, b3, j, rfl, hj, hs2⟩; have HS := Sealed.mk (And.intro hj hs2); clear hj hs2)))
    go_roundg (64 - (s + 1))
    case measure => omega
    case rel => exact ⟨s + 1, j, vs3, b3, rfl, by omega, by rw [HP.out.2.1], rfl, ⟨HQ.out.1.after HQ.out.2.1 HS.out.2 HQ.out.2.2.1.inv, HQ.out.2.1.pre HS.out.2.pre, (HR.out.2.2.1.trans HQ.out.2.2.1).trans HS.out.2, by rw [HS.out.1]; push_cast; rfl⟩⟩
   ·rw [if_neg hodd] at hlo
    have hmd : z.tmod 2 = 0 := by
     rw [hzk]
     cases neg
     ·simp only [Bool.false_eq_true, if_false]; rw [Int.tmod_eq_emod_of_nonneg (by omega)]; omega
     ·simp only [if_true]; rw [Int.neg_tmod, Int.tmod_eq_emod_of_nonneg (by omega)]; omega
    have hq := RNext.call HNX.out HR.out.2.2.1.inv HR.out.2.2.2
    rw [HR.out.2.2.1.p] at hq
    have HP := Sealed.mk (And.intro hq (And.intro hz' (And.intro hlo hz'b)))
    clear hask hlo hz hzk hnxt hk hz' hodd hkm hq
    go_wp2_with (go_at_call 68; go_must ((with_reducible refine HP.out.1.mono ?_); rintro e2 w2 ⟨vs3, b3, j, rfl, hj, hs2⟩; have HS := Sealed.mk (And.intro hj hs2); clear hj hs2))
    go_roundg (64 - (s + 1))
    case measure => omega
    case rel => exact ⟨s + 1, j, vs3, b3, rfl, by omega, by rw [HP.out.2.1], rfl, ⟨by rw [HP.out.2.2.1]; exact HR.out.1.after HR.out.2.1 HS.out.2 HR.out.2.2.1.inv, by rw [HP.out.2.2.1]; exact HR.out.2.1.pre HS.out.2.pre, HR.out.2.2.1.trans HS.out.2, by rw [HS.out.1]; push_cast; rfl⟩⟩
end Go.Proofs.Ytgchfbfgjanaiaa

namespace Go.Proofs.Ytgchfbfgjanaiaa
open Go.RowKit Sr
def u64Z (z : Int) : Int := z % 18446744073709551616
theorem u64_add (a b : Int) : IntKind.u64.wrap (u64Z a + b) = u64Z (a + b) := by rw [IntKind.wrap_u64]; unfold u64Z; omega
theorem u64_sub (a b : Int) : IntKind.u64.wrap (u64Z a - b) = u64Z (a + -b) := by rw [IntKind.wrap_u64]; unfold u64Z; omega
theorem u64_back {x : Int} (h : Is64 x) : IntKind.i64.wrap (u64Z x) = x := by rw [IntKind.wrap_i64]; unfold u64Z; unfold Is64 at h; omega
theorem u64_pow {e : Nat} (h : e ≤ 63) : IntKind.u64.wrap (2 ^ e) = 2 ^ e := by
 have h1 := pow_mono h
 rw [pow63] at h1
 have h2 := two_pow_pos e
 rw [IntKind.wrap_u64]
 omega
def ri64 (x : Int) : Int := if Is64 x then x else 0
theorem ri64_in {x : Int} (h : Is64 x) : ri64 x = x := if_pos h
theorem ri64_out {x : Int} (h : ¬ Is64 x) : ri64 x = 0 := if_neg h
theorem exps_is64 {x : Int} (h : Is64 x) {e : Nat} (he : e ∈ exps x) : e ≤ 63 := exps_small (by unfold Is64 at h; omega) he
theorem is64_cmp {x : Int} : Is64 x ↔ ¬ sg (x - -9223372036854775808) < 0 ∧ ¬ 0 ≤ sg (x - 9223372036854775808) := by
 unfold Is64 sg
 constructor
 ·intro h
  constructor
  ·split <;> (try split) <;> omega
  ·split <;> (try split) <;> omega
 ·rintro ⟨h1, h2⟩
  constructor
  ·split at h1 <;> (try split at h1) <;> omega
  ·split at h2 <;> (try split at h2) <;> omega
end Go.Proofs.Ytgchfbfgjanaiaa

namespace Go.Proofs.Ytgchfbfgjanaiaa
open Sr
set_option linter.unusedSectionVars false
theorem part_parent {e : Nat} {x : Int} (h : Part e x) : e ∈ exps x ∨ ∃ f : Nat, Part f x ∧ e ∈ exps (f : Int) := by
 induction h with
 | here h => exact .inl h
 | deep h _ ih =>
   rcases ih with ih | ⟨g, h1, h2⟩
   ·exact .inr ⟨_, .here h, ih⟩
   ·exact .inr ⟨g, .deep h h1, h2⟩
theorem exp_place {vs : List Int} (hcl : Cl vs) {i e : Nat} {x : Int} (hi : vs[i]? = some x) (he : e ∈ exps x) : ∃ q, q < i ∧ vs[q]? = some (e : Int) := by
 obtain ⟨t, ht, rfl⟩ := mem_exps.1 he
 exact hcl.ahead i x hi t ht
theorem part_place {vs : List Int} (hcl : Cl vs) {e : Nat} {x : Int} (h : Part e x) : ∀ {i : Nat}, vs[i]? = some x → ∃ q, q < i ∧ vs[q]? = some (e : Int) := by
 induction h with
 | here h => intro i hi; exact exp_place hcl hi h
 | deep h _ ih =>
   intro i hi
   obtain ⟨q, h1, h2⟩ := exp_place hcl hi h
   obtain ⟨q', h3, h4⟩ := ih h2
   exact ⟨q', by omega, h4⟩
theorem same_place {vs : List Int} (hcl : Cl vs) {i j : Nat} {x : Int} (hi : vs[i]? = some x) (hj : vs[j]? = some x) : i = j :=
 (idxOf_of hcl.nodup hi).symm.trans (idxOf_of hcl.nodup hj)
def PM (vs : List Int) (i : Nat) (x : Int) (j : Nat) : Prop := j = i ∨ ∃ e : Nat, Part e x ∧ vs[j]? = some (e : Int)
def SM (vs : List Int) (i : Nat) (x : Int) (s j : Nat) : Prop := j = i ∨ ∃ q, s ≤ q ∧ q ≤ i ∧ PM vs i x q ∧ ∃ (y : Int) (e : Nat), vs[q]? = some y ∧ e ∈ exps y ∧ vs[j]? = some (e : Int)
section
variable {vs : List Int} {i : Nat} {x : Int} (hcl : Cl vs) (hi : vs[i]? = some x)
include hcl hi
theorem sm_pm {s j : Nat} (h : SM vs i x s j) : PM vs i x j := by
 rcases h with rfl | ⟨q, _, _, hq, y, e, h1, h2, h3⟩
 ·exact .inl rfl
 ·rcases hq with rfl | ⟨f, hf, hv⟩
  ·rw [hi] at h1
   obtain rfl := Option.some.inj h1
   exact .inr ⟨e, .here h2, h3⟩
  ·rw [hv] at h1
   obtain rfl := Option.some.inj h1
   exact .inr ⟨e, hf.up h2, h3⟩
theorem sm_of {s j : Nat} (hs : s ≤ j + 1) (h : PM vs i x j) : SM vs i x s j := by
 rcases h with rfl | ⟨e, he, hv⟩
 ·exact .inl rfl
 ·right
  rcases part_parent he with h1 | ⟨f, h1, h2⟩
  ·obtain ⟨q, hq1, hq2⟩ := exp_place hcl hi h1
   obtain rfl := same_place hcl hv hq2
   exact ⟨i, by omega, Nat.le_refl _, .inl rfl, x, e, hi, h1, hv⟩
  ·obtain ⟨q, hq1, hq2⟩ := part_place hcl h1 hi
   obtain ⟨j', hj1, hj2⟩ := exp_place hcl hq2 h2
   obtain rfl := same_place hcl hv hj2
   exact ⟨q, by omega, by omega, .inr ⟨f, h1, hq2⟩, _, e, hq2, h2, hv⟩
theorem sm_iff {s j : Nat} (hs : s ≤ j + 1) : SM vs i x s j ↔ PM vs i x j := ⟨sm_pm hcl hi, sm_of hcl hi hs⟩
end
theorem sm_step {vs : List Int} {i : Nat} {x : Int} {s j : Nat} (hs : s ≤ i) : SM vs i x s j ↔ SM vs i x (s + 1) j ∨ (PM vs i x s ∧ ∃ (y : Int) (e : Nat), vs[s]? = some y ∧ e ∈ exps y ∧ vs[j]? = some (e : Int)) := by
 constructor
 ·rintro (rfl | ⟨q, h1, h2, h3, h4⟩)
  ·exact .inl (.inl rfl)
  ·by_cases h : q = s
   ·subst h; exact .inr ⟨h3, h4⟩
   ·exact .inl (.inr ⟨q, by omega, h2, h3, h4⟩)
 ·rintro ((rfl | ⟨q, h1, h2, h3, h4⟩) | ⟨h3, h4⟩)
  ·exact .inl rfl
  ·exact .inr ⟨q, by omega, h2, h3, h4⟩
  ·exact .inr ⟨s, Nat.le_refl _, hs, h3, h4⟩
theorem sm_top {vs : List Int} {i : Nat} {x : Int} {j : Nat} : SM vs i x (i + 1) j ↔ j = i := by
 constructor
 ·rintro (h | ⟨q, h1, h2, _⟩)
  ·exact h
  ·omega
 ·exact .inl
theorem parts_sorted {vs : List Int} {i : Nat} {x : Int} (hcl : Cl vs) (hi : vs[i]? = some x) {ls : List Nat} (hm : ∀ j, j ∈ ls ↔ j < i ∧ PM vs i x j) (hs : ls.Pairwise fun a b => vs.getD a 0 < vs.getD b 0) :
  ls = (plist x).map fun e : Nat => vs.idxOf (e : Int) := by
 have hval : ∀ j ∈ ls, ∃ e : Nat, Part e x ∧ vs[j]? = some (e : Int) := fun j hj => by
  obtain ⟨h1, h2⟩ := (hm j).1 hj
  rcases h2 with h2 | h2
  ·omega
  ·exact h2
 have hgd : ∀ {j : Nat} {z : Int}, vs[j]? = some z → vs.getD j 0 = z := fun h => by rw [List.getD_eq_getElem?_getD, h]; rfl
 have he : plist x = ls.map fun j => (vs.getD j 0).toNat := by
  refine plist_of ?_ fun e => ?_
  ·rw [List.pairwise_map]
   refine hs.imp_of_mem fun {a b} ha hb hab => ?_
   obtain ⟨e1, _, h1⟩ := hval a ha
   obtain ⟨e2, _, h2⟩ := hval b hb
   rw [hgd h1, hgd h2] at *
   omega
  ·rw [List.mem_map]
   constructor
   ·rintro ⟨j, hj, rfl⟩
    obtain ⟨e1, h0, h1⟩ := hval j hj
    rw [hgd h1]; simpa using h0
   ·intro h
    obtain ⟨q, h1, h2⟩ := part_place hcl h hi
    exact ⟨q, (hm q).2 ⟨h1, .inr ⟨e, h, h2⟩⟩, by rw [hgd h2]; simp⟩
 rw [he, List.map_map]
 conv => lhs; rw [← List.map_id ls]
 apply List.map_congr_left
 intro j hj
 obtain ⟨e1, _, h1⟩ := hval j hj
 simp only [id_eq, Function.comp_def]
 rw [hgd h1, Int.toNat_natCast]
 exact (idxOf_of hcl.nodup h1).symm
end Go.Proofs.Ytgchfbfgjanaiaa

namespace Go.Proofs.Ytgchfbfgjanaiaa
open Go.RowKit Sr
def RIntOut (U : List Int) (w : World) (b : RB) (vs : List Int) (x : Int) (e : Ending) (w' : World) : Prop :=
 ∃ vs' b', e = .returned (.tuple #[.int .i64 (ri64 x), .bool (decide (Is64 x))]) ∧ RStep U w w' b b' vs vs'
set_option maxRecDepth 100000 in
set_option maxHeartbeats 4000000 in
theorem rInt_step {U : List Int} (hU : ∀ x ∈ covR [] 0, x ∈ U) (hp63 : (2 : Int) ^ 63 ∈ U) (hm63 : -(2 : Int) ^ 63 ∈ U) {i : Nat}
  (ih : ∀ j, j < i → ∀ {w : World} {b : RB} {vs : List Int} {x : Int}, RInv w b vs U → vs[j]? = some x → Calls Try.prog 59 #[.pointer (some ⟨b.p, 0, none⟩), .int .i64 (j : Int)] w (RIntOut U w b vs x))
  {w : World} {b : RB} {vs : List Int} {x : Int} (h : RInv w b vs U) (hi : vs[i]? = some x) :
  Calls Try.prog 59 #[.pointer (some ⟨b.p, 0, none⟩), .int .i64 (i : Int)] w (RIntOut U w b vs x) := by
 obtain ⟨cap, a, c, f0, hcap, hil, f1, ht, hk⟩ := h.form hi
 obtain ⟨n, hn⟩ : ∃ n, n = (enc vs x).length := ⟨_, rfl⟩
 have hnf : n = (form x).length := by rw [hn]; simp [enc]
 rw [← hn] at f1 ht hk
 have hnc := (ht.cells).2.2.1
 have hn1 := (ht.cells).2.1
 have h63 : (63 : Int) ∈ U := hU _ (covR_low (n := 63) (P := []) (N := 0) (by omega))
 have hil' : (i : Int) < (vs.length : Int) := by omega
 have H := Sealed.mk (And.intro h (And.intro hi (And.intro ht (And.intro hk hnf))))
 have HU := Sealed.mk (And.intro hU (And.intro hp63 (And.intro hm63 h63)))
 have IH := Sealed.mk @ih
 clear h hi ht hk hnf hn hU hp63 hm63 h63 ih
 by_cases hn0 : n = 0
 ·have bN : ((n : Int) == 0) = true := by simp [hn0]
  have hx0 : x = 0 := by
   have h1 := H.out.2.2.2.2
   rw [hn0] at h1
   have h2 : form x = [] := List.eq_nil_of_length_eq_zero h1.symm
   have h3 := val_form x
   rw [h2] at h3
   simpa [val] using h3.symm
  have HX := Sealed.mk hx0; clear hx0 hn0
  go_enter Try.func59, Try.ntmps59
  go_wp2_with fail
  refine bodyPost_ret (v := .tuple #[.int .i64 0, .bool true]) (by simp [results, Try.results59, go_sem]) rfl ⟨vs, b, ?_, RStep.refl H.out.1⟩
  rw [HX.out]
  rfl
 ·have bN : ((n : Int) == 0) = false := by simp; omega
  have P : Sealed (RStep U w w b b vs vs) := ⟨RStep.refl H.out.1⟩
  have h63is : Is64 63 := by decide
  have H63 := Sealed.mk h63is; clear h63is
  go_enter Try.func59, Try.ntmps59
  go_upto_region 5 with (first
   | (go_at_call 24; go_must (have hq := rOf_any P.out.inv H63.out HU.out.1 HU.out.2.2.2; rw [P.out.p] at hq; (with_reducible refine hq.mono ?_); clear hq; rintro e1 w1 ⟨vs1, b1, j1, rfl, hj1, hs1⟩; replace P := Sealed.mk (P.out.trans hs1); (try (replace JN := Sealed.mk (pre_get hs1.pre JN.out))); have hj2 : vs1[j1]? = some ((63 : Nat) : Int) := hj1; have JO := Sealed.mk hj2; clear hj1 hj2 hs1))
   | (go_at_call 26; go_must (have hq := rPower_any P.out.inv JO.out HU.out.2.1; rw [P.out.p] at hq; (with_reducible refine hq.mono ?_); clear hq; rintro e1 w1 ⟨vs1, b1, j1, rfl, hj1, hs1⟩; replace P := Sealed.mk (P.out.trans hs1); (try (replace JN := Sealed.mk (pre_get hs1.pre JN.out))); have JP := Sealed.mk hj1; clear hj1 hs1))
   | (go_at_call 95; go_must (have hq := rNeg_any P.out.inv JP.out HU.out.2.2.1; rw [P.out.p] at hq; (with_reducible refine hq.mono ?_); clear hq; rintro e1 w1 ⟨vs1, b1, j1, rfl, hj1, hs1⟩; replace P := Sealed.mk (P.out.trans hs1); have JN := Sealed.mk hj1; clear hj1 hs1)))
  obtain ⟨c1, hc1⟩ : ∃ z, z = sg (x - -(2 : Int) ^ 63) := ⟨_, rfl⟩
  obtain ⟨c2, hc2⟩ : ∃ z, z = sg (x - (2 : Int) ^ 63) := ⟨_, rfl⟩
  have hIs : Is64 x ↔ ¬ c1 < 0 ∧ ¬ 0 ≤ c2 := by rw [hc1, hc2, pow63]; exact is64_cmp
  have HC := Sealed.mk (And.intro hc1 (And.intro hc2 hIs)); clear hc1 hc2 hIs
  go_cut [45] from 34 to 45 (fun tv wx => ∃ cb : Bool, tv = .bool cb ∧ (cb = false ↔ Is64 x) ∧ ∃ b2 vs2, RStep U w wx b b2 vs vs2)
  case first =>
   by_cases h1 : c1 < 0
   ·have d1 : decide (c1 < 0) = true := decide_eq_true h1
    have HA := Sealed.mk h1; clear h1
    go_wp2_with (go_at_call 86; go_must (have hq := rCmp_at (pre_get P.out.pre H.out.2.1) JN.out P.out.inv; rw [P.out.p, ← HC.out.1] at hq; (with_reducible refine hq.mono ?_); clear hq; rintro e3 w3 ⟨rfl, q3, hq3⟩; replace P := Sealed.mk (P.out.trans (r_done P.out.inv hq3)); clear hq3))
    go_meet
    case rel => exact ⟨true, rfl, by rw [HC.out.2.2]; have := HA.out; simp; omega, _, _, P.out⟩
   ·have d1 : decide (c1 < 0) = false := decide_eq_false h1
    have HA := Sealed.mk h1; clear h1
    go_wp2_with (go_at_call 86; go_must (first
     | (have hq := rCmp_at (pre_get P.out.pre H.out.2.1) JN.out P.out.inv; rw [P.out.p, ← HC.out.1] at hq; (with_reducible refine hq.mono ?_); clear hq; rintro e3 w3 ⟨rfl, q3, hq3⟩; replace P := Sealed.mk (P.out.trans (r_done P.out.inv hq3)); clear hq3)
     | (have hq := rCmp_at (pre_get P.out.pre H.out.2.1) JP.out P.out.inv; rw [P.out.p, ← HC.out.2.1] at hq; (with_reducible refine hq.mono ?_); clear hq; rintro e4 w4 ⟨rfl, q4, hq4⟩; replace P := Sealed.mk (P.out.trans (r_done P.out.inv hq4)); clear hq4)))
    go_meet
    case rel => exact ⟨_, rfl, by rw [HC.out.2.2]; simp [HA.out], _, _, P.out⟩
  case rest =>
   obtain ⟨cb, rfl, hcb, b2, vs2, hst⟩ := hcut
   obtain ⟨W2, hW2⟩ : ∃ W2, W2 = wc := ⟨_, rfl⟩
   rw [← hW2] at hst ⊢
   clear hW2 P JN JP JO
   have P := Sealed.mk hst; clear hst
   have HB := Sealed.mk hcb; clear hcb
   rcases cb with _ | _
   case true =>
    have hno : ¬ Is64 x := fun h => by have := HB.out.2 h; simp at this
    have HN := Sealed.mk hno; clear hno
    go_wp2_with fail
    refine bodyPost_ret (v := .tuple #[.int .i64 0, .bool false]) (by simp [results, Try.results59, go_sem]) rfl ⟨vs2, b2, ?_, P.out⟩
    rw [ri64_out HN.out, decide_eq_false HN.out]
   case false =>
    have hyes : Is64 x := HB.out.1 rfl
    have HY := Sealed.mk hyes; clear hyes
    go_wp2_with fail
    go_loopg [9, 10] n (fun jj ov iv W => ∃ (k : Nat) (vs1 : List Int) (b1 : RB), jj = n - k ∧ k ≤ n ∧ iv = .int .i64 (k : Int) ∧ ov = .int .u64 (u64Z (val ((form x).take k))) ∧ Sealed (RStep U w W b b1 vs vs1))
    case atStart => exact ⟨0, vs2, b2, rfl, Nat.zero_le _, rfl, rfl, P⟩
    case round =>
     obtain ⟨k, vs1, b1, rfl, hk, rfl, rfl, HR⟩ := hrel
     by_cases hkn : k < n
     ·obtain ⟨⟨m, e⟩, hte⟩ : ∃ t, (form x)[k]? = some t := ⟨_, List.getElem?_eq_getElem (by have := H.out.2.2.2.2; omega)⟩
      have hex : e ∈ exps x := mem_exps.2 ⟨_, List.mem_of_getElem? hte, rfl⟩
      have he63 := exps_is64 HY.out hex
      obtain ⟨q, hqi, hqv⟩ := exp_place H.out.1.cl H.out.2.1 hex
      have hix : vs.idxOf (e : Int) = q := idxOf_of H.out.1.cl.nodup hqv
      have htx : (enc vs x)[k]? = some (m, q) := by simp [enc, hte, hix]
      have hrl := H.out.2.2.1.step HR.out H.out.2.2.2.1
      obtain ⟨-, -, -, hcl⟩ := hrl.cells
      obtain ⟨bb, oo, rfl, d0, d1⟩ := hcl k _ htx
      simp only at d0 d1
      have hcall := IH.out q hqi HR.out.inv (pre_get HR.out.pre hqv)
      rw [HR.out.p] at hcall
      have hie : Is64 (e : Int) := by unfold Is64; omega
      have hval := val_take_snoc hte
      obtain ⟨V, hV⟩ : ∃ V, V = val ((form x).take k) := ⟨_, rfl⟩
      rw [← hV] at hval ⊢
      have hkn' : (k : Int) < (n : Int) := by omega
      have hkw : wrap64 ((k : Int) + 1) = (k : Int) + 1 := by unfold wrap64; omega
      have hsl : (0 : Int) ≤ (e : Int) := by omega
      have HE := Sealed.mk (And.intro hcall (And.intro hie (And.intro hval (And.intro htx he63)))); clear hcall hie hval htx hqv hqi hix hex hte hrl hcl hV
      go_upto_region 12 with (go_at_call 59; go_must ((with_reducible refine HE.out.1.mono ?_); rintro e5 w5 ⟨vs5, b5, rfl, hs5⟩; rw [ri64_in HE.out.2.1, decide_eq_true HE.out.2.1]; have P5 := Sealed.mk (HR.out.trans hs5); clear hs5))
      have hrl5 := H.out.2.2.1.step P5.out H.out.2.2.2.1
      obtain ⟨-, -, -, hcl5⟩ := hrl5.cells
      obtain ⟨bb', oo', e9, d2, -⟩ := hcl5 k _ HE.out.2.2.2.1
      obtain ⟨rfl, rfl⟩ : bb = bb' ∧ oo = oo' := by simpa using e9
      simp only at d2
      clear hrl5 hcl5 e9
      have hpw := u64_pow HE.out.2.2.2.2
      obtain ⟨pw, hpw2⟩ : ∃ pw : Int, pw = 2 ^ e := ⟨_, rfl⟩
      have f1 := u64_add V pw
      have f2 := u64_sub V pw
      go_upto_region 13 with fail
      (try rw [hpw])
      rw [← hpw2]
      clear hpw
      cases m
      ·have HV := Sealed.mk (show val ((form x).take (k + 1)) = V + pw by rw [HE.out.2.2.1, hpw2]; simp [tv])
       clear hpw2 f2
       go_wp2_with fail
       go_roundg (n - (k + 1))
       case measure => omega
       case rel => exact ⟨k + 1, vs5, b5, rfl, by omega, by push_cast; rfl, by rw [HV.out], P5⟩
      ·have HV := Sealed.mk (show val ((form x).take (k + 1)) = V + -pw by rw [HE.out.2.2.1, hpw2]; simp [tv])
       clear hpw2 f1
       go_wp2_with fail
       go_roundg (n - (k + 1))
       case measure => omega
       case rel => exact ⟨k + 1, vs5, b5, rfl, by omega, by push_cast; rfl, by rw [HV.out], P5⟩
     ·obtain rfl : k = n := by omega
      have hv : val ((form x).take k) = x := by rw [H.out.2.2.2.2, List.take_length, val_form]
      rw [hv]
      have hbk := u64_back HY.out
      clear hv
      go_wp2_with fail
      refine bodyPost_ret (v := .tuple #[.int .i64 x, .bool true]) (by simp [results, Try.results59, go_sem]) rfl ⟨vs1, b1, ?_, HR.out⟩
      rw [ri64_in HY.out, decide_eq_true HY.out]
theorem rInt_any {U : List Int} (hU : ∀ x ∈ covR [] 0, x ∈ U) (hp63 : (2 : Int) ^ 63 ∈ U) (hm63 : -(2 : Int) ^ 63 ∈ U) : ∀ (n : Nat) {i : Nat}, i < n → ∀ {w : World} {b : RB} {vs : List Int} {x : Int}, RInv w b vs U → vs[i]? = some x →
  Calls Try.prog 59 #[.pointer (some ⟨b.p, 0, none⟩), .int .i64 (i : Int)] w (RIntOut U w b vs x)
 | 0, _, h => absurd h (Nat.not_lt_zero _)
 | n + 1, _, h => fun hi hx => rInt_step hU hp63 hm63 (fun j hj => rInt_any hU hp63 hm63 n (by omega)) hi hx
end Go.Proofs.Ytgchfbfgjanaiaa
