/-
 a universe for what the reference's Load asks for: forms of up to 1000 terms: plain
 (*sandreckonerref01.Reader).number
 (*sandreckonerref01.World).formed
 the reference's Load: what its loops hold
 bytes wherever they lie; sandreckonerref01.Same of them
-/
import Derived.Test.YtgchfbfgjanaiaaB04
import Derived.Test.YtgchfbfgjanaiaaA32
import Derived.Test.YtgchfbfgjanaiaaB06
import Derived.Deep.LoopGhost
import Derived.Deep.DeepCutAuto
import Derived.Test.YtgchfbfgjanaiaaA31
import Derived.Laws.IdiomStrings
set_option linter.unusedSimpArgs false
set_option linter.unusedVariables false
namespace Go.Proofs.Ytgchfbfgjanaiaa
open Go.RowKit Sr
theorem rhull_big {P : List Nat} (hup : ∀ p ∈ P, ∀ f ∈ exps (p : Int), f ∈ P) (hln : ∀ p ∈ P, wl (p : Int) ≤ 1000) {U : List Int} (hU : ∀ x ∈ covR P 200, x ∈ U) (n : Nat) : (∃ p ∈ P, ∃ k, k ≤ 38 ∧ n = p + k) ∨ n < 2399 → RNextIn U n := by
 induction n using Nat.strongRecOn with
 | _ n ih =>
   intro hn
   have hlen : (form (n : Int)).length ≤ 1038 := by
    rcases hn with ⟨p, hp, k, hk, rfl⟩ | hn
    ·have h1 := wl_addn (p : Int) k
     have h2 := hln p hp
     rw [← Int.natCast_add] at h1
     unfold wl at h1 h2
     omega
    ·have := wl_million (n := n) (by omega)
     omega
   refine .mk n ?_ (by omega) ?_
   ·rcases hn with ⟨p, hp, k, hk, rfl⟩ | hn
    ·have := hU _ (covR_at hp (show k + 1 < 2 * 200 + 40 by omega))
     rw [show ((p + (k + 1) : Nat) : Int) = ((p + k : Nat) : Int) + 1 by omega] at this
     exact this
    ·have := hU _ (covR_low (N := 200) (P := P) (show n + 1 < 4 * 200 + 1600 by omega))
     simpa using this
   ·intro q hq
    obtain ⟨hlt, hq⟩ := asks_form hq
    refine ih q hlt ?_
    rcases hq with hq | hq
    ·rcases hn with ⟨p, hp, k, hk, rfl⟩ | hn
     ·rw [Int.natCast_add] at hq
      rcases exps_addn (p : Int) k _ hq with h1 | h1
      ·exact .inl ⟨q, hup p hp _ h1, 0, by omega, rfl⟩
      ·have h2 := hln p hp
       unfold wl at h1 h2
       exact .inr (by omega)
     ·have := exps_million (n := n) (by omega) hq
      exact .inr (by omega)
    ·exact .inr (by omega)
def rldU (nums : List Int) : List Int := 0 :: (nums ++ covR (natsP nums) 200)
theorem rldU_length {nums : List Int} (h : nums.length ≤ 3000) : (rldU nums).length ≤ roomW := by
 have h1 := covR_length (natsP nums) 200
 have h2 : (natsP nums).length ≤ nums.length := by unfold natsP; rw [List.length_map]; exact List.length_filter_le _ _
 unfold rldU roomW
 simp only [List.length_cons, List.length_append]
 generalize (covR (natsP nums) 200).length = a at h1 ⊢
 generalize (natsP nums).length = c at h1 h2
 omega
theorem rldU_mem {nums : List Int} {y : Int} (h : y ∈ nums) : y ∈ rldU nums := by simp [rldU, h]
theorem rldU_cov {nums : List Int} {y : Int} (h : y ∈ covR (natsP nums) 200) : y ∈ rldU nums := by simp [rldU, h]
theorem rldU_mono {nums : List Int} {y z : Int} (h : z ∈ rldU nums) : z ∈ rldU (nums ++ [y]) := by
 unfold rldU at h ⊢
 simp only [List.mem_cons, List.mem_append] at h ⊢
 rcases h with h | h | h
 ·exact .inl h
 ·exact .inr (.inl (.inl h))
 ·refine .inr (.inr ?_)
  have e : ∃ t, natsP (nums ++ [y]) = natsP nums ++ t := ⟨_, by unfold natsP; rw [List.filter_append, List.map_append]⟩
  obtain ⟨t, e⟩ := e
  unfold covR at h ⊢
  rw [e]
  simp only [List.mem_append, List.flatMap_append] at h ⊢
  rcases h with h | h
  ·exact .inl (.inl h)
  ·exact .inr h
def GoodR (nums : List Int) : Prop := ∀ y ∈ nums, wl y ≤ 1000 ∧ ∀ e ∈ exps y, (e : Int) ∈ nums
theorem goodR_next {nums : List Int} (h : GoodR nums) {e : Nat} (he : (e : Int) ∈ nums) : RNext (rldU nums) e :=
 rnext_any (rhull_big (P := natsP nums) (fun p hp f hf => natsP_mem.2 ((h _ (natsP_mem.1 hp)).2 f hf)) (fun p hp => (h _ (natsP_mem.1 hp)).1) (fun _ hx => rldU_cov hx) e (.inl ⟨e, natsP_mem.2 he, 0, by omega, rfl⟩))
theorem GoodR.push {nums : List Int} (h : GoodR nums) {y : Int} (hw : wl y ≤ 1000) (he : ∀ e ∈ exps y, (e : Int) ∈ nums) : GoodR (nums ++ [y]) := by
 intro z hz
 rcases List.mem_append.1 hz with hz | hz
 ·exact ⟨(h z hz).1, fun e he => List.mem_append.2 (.inl ((h z hz).2 e he))⟩
 ·simp at hz
  subst hz
  exact ⟨hw, fun e h => List.mem_append.2 (.inl (he e h))⟩
end Go.Proofs.Ytgchfbfgjanaiaa

namespace Go.Proofs.Ytgchfbfgjanaiaa
open Go.RowKit Sr
structure RdAt (N : Nat → Prop) (W : World) (rb : Nat) (l : List Int) (bad : Bool) : Prop where
 range : ∀ x ∈ l, 0 ≤ x ∧ x < 256
 len : l.length ≤ 1000000
 var : ∃ a c, W.heap[rb]? = some (.cells #[.slice a l.length c, .bool bad] 91 (0, 0)) ∧ l.length ≤ c ∧ (l ≠ [] → ∃ b o, a = some ⟨b, o, none⟩ ∧ N b ∧ b < W.heap.size ∧ ∀ (i : Nat) (x : Int), l[i]? = some x → W.cell? ⟨b, o + i, none⟩ = some (.int .u8 x))
theorem RdAt.keep {N : Nat → Prop} {W W1 : World} {rb : Nat} {l : List Int} {bad : Bool} {M : Nat → Prop} (h : RdAt N W rb l bad) (e : Ext M W W1) (hM : ¬ M rb) (hB : ∀ k, M k → ¬ N k) : RdAt N W1 rb l bad := by
 obtain ⟨a, c, h1, h2, h3⟩ := h.var
 refine ⟨h.range, h.len, a, c, e.get h1 hM, h2, fun hl => ?_⟩
 obtain ⟨b, o, q1, q2, q3, q5⟩ := h3 hl
 have hb := e.block b q3 (fun hm => hB b hm q2)
 exact ⟨b, o, q1, q2, Nat.lt_of_lt_of_le q3 e.size, fun i x hx => (cell_same hb _).trans (q5 i x hx)⟩
def rdX (l : List Int) (n : Nat) : Int := (l.take n).foldl (fun z x => 256 * z + x) 0
def rdN (n : Nat) (l : List Int) : Int := if l.length < n then 0 else rdX l n
def rdL (n : Nat) (l : List Int) : List Int := if l.length < n then l else l.drop n
def rdB (n : Nat) (l : List Int) (bad : Bool) : Bool := if l.length < n then true else bad
theorem rdX_succ {l : List Int} {i : Nat} {x : Int} (h : l[i]? = some x) : rdX l (i + 1) = 256 * rdX l i + x := by
 unfold rdX
 rw [take_snoc h, List.foldl_append]
 rfl
theorem rdX_one {l : List Int} {x : Int} (h : l[0]? = some x) : rdX l 1 = x := by
 have := rdX_succ h
 simpa [rdX] using this
theorem rdX_range {l : List Int} (h : ∀ x ∈ l, 0 ≤ x ∧ x < 256) {i : Nat} (hi : i ≤ 2) (hl : i ≤ l.length) : 0 ≤ rdX l i ∧ rdX l i < 65536 ∧ (i ≤ 1 → rdX l i < 256) := by
 have h0 : rdX l 0 = 0 := rfl
 rcases Nat.eq_zero_or_pos i with rfl | hp
 ·omega
 ·have hx : l[0]? = some l[0] := List.getElem?_eq_getElem (by omega)
  have h1 := rdX_one hx
  have g1 := h _ (List.mem_of_getElem? hx)
  by_cases h2 : i = 1
  ·subst h2; omega
  ·obtain rfl : i = 2 := by omega
   have hy : l[1]? = some l[1] := List.getElem?_eq_getElem (by omega)
   have h3 : rdX l 2 = 256 * rdX l 1 + l[1] := rdX_succ hy
   have g2 := h _ (List.mem_of_getElem? hy)
   omega
theorem rd_two {l : List Int} (h : 2 ≤ l.length) : rdN 2 l = (two2 l).1 ∧ rdL 2 l = (two2 l).2 ∧ ∀ b, rdB 2 l b = b := by
 match l, h with
 | x :: y :: l, _ =>
   unfold rdN rdL rdB rdX two2
   simp
   omega
theorem rd_short {l : List Int} (h : l.length < 2) : rdN 2 l = 0 ∧ (∀ b, rdB 2 l b = true) ∧ (two2 l).1 = -1 := by
 match l, h with
 | [], _ => exact ⟨rfl, fun _ => rfl, rfl⟩
 | [x], _ => exact ⟨rfl, fun _ => rfl, rfl⟩
theorem RdAt.setBad {N : Nat → Prop} {W W1 : World} {rb : Nat} {l : List Int} {bad : Bool} (h : RdAt N W rb l bad) (hN : ¬ N rb) (hW : W1.heap = W.heap) : RdAt N (W1.setCell ⟨rb, 1, none⟩ (.bool true)) rb l true := by
 obtain ⟨a, c, h1, h2, h3⟩ := h.var
 have h1' : W1.heap[rb]? = some (.cells #[.slice a l.length c, .bool bad] 91 (0, 0)) := by rw [hW]; exact h1
 refine ⟨h.range, h.len, a, c, by rw [blk_setCell h1' 1 _]; rfl, h2, fun hl => ?_⟩
 obtain ⟨b, o, q1, q2, q3, q5⟩ := h3 hl
 have q9 : b ≠ rb := fun e => hN (e ▸ q2)
 have e : Ext (fun q => q = rb) W1 (W1.setCell ⟨rb, 1, none⟩ (.bool true)) := (Ext.refl (fun q => q = rb) W1).setCell (p := ⟨rb, 1, none⟩) (.inl rfl) _
 have hb2 : (W1.setCell ⟨rb, 1, none⟩ (.bool true)).heap[b]? = W.heap[b]? := by rw [e.block b (by rw [hW]; exact q3) q9, hW]
 exact ⟨b, o, q1, q2, by have := e.size; rw [hW] at this; omega, fun i x hx => (cell_same hb2 _).trans (q5 i x hx)⟩
theorem RdAt.setL {N : Nat → Prop} {W W1 : World} {rb n : Nat} {l : List Int} {bad : Bool} (h : RdAt N W rb l bad) (hN : ¬ N rb) (hW : W1.heap = W.heap) {b0 o0 o1 c1 : Nat} {c0 : Nat} (hv : W.heap[rb]? = some (.cells #[.slice (some ⟨b0, o0, none⟩) l.length c0, .bool bad] 91 (0, 0)))
  (hn : n ≤ l.length) (hc : l.length - n ≤ c1) (ho : l.length - n ≠ 0 → o1 = o0 + n) : RdAt N (W1.setCell ⟨rb, 0, none⟩ (.slice (some ⟨b0, o1, none⟩) (l.length - n) c1)) rb (l.drop n) bad := by
 obtain ⟨a, c, h1, h2, h3⟩ := h.var
 rw [h1] at hv
 simp only [Option.some.injEq, Obj.cells.injEq] at hv
 have h1' : W1.heap[rb]? = some (.cells #[.slice a l.length c, .bool bad] 91 (0, 0)) := by rw [hW]; exact h1
 have hva : a = some ⟨b0, o0, none⟩ := by
  have := congrArg (fun x : Array Value => x[0]?) hv.1
  simp at this
  exact this.1
 subst hva
 refine ⟨fun x hx => h.range x (List.mem_of_mem_drop hx), by rw [List.length_drop]; have := h.len; omega, some ⟨b0, o1, none⟩, c1, by rw [blk_setCell h1' 0 _, List.length_drop]; rfl, by rw [List.length_drop]; exact hc, fun hl => ?_⟩
 have hlen : l.length - n ≠ 0 := fun e => hl (List.eq_nil_of_length_eq_zero (by rw [List.length_drop]; exact e))
 obtain ⟨b, o, q1, q2, q3, q5⟩ := h3 (fun e => by rw [e] at hlen; simp at hlen)
 obtain ⟨rfl, rfl⟩ : b0 = b ∧ o0 = o := by simpa using q1
 have q9 : b0 ≠ rb := fun e => hN (e ▸ q2)
 have e : Ext (fun q => q = rb) W1 (W1.setCell ⟨rb, 0, none⟩ (.slice (some ⟨b0, o1, none⟩) (l.length - n) c1)) := (Ext.refl (fun q => q = rb) W1).setCell (p := ⟨rb, 0, none⟩) (.inl rfl) _
 have hb2 : (W1.setCell ⟨rb, 0, none⟩ (.slice (some ⟨b0, o1, none⟩) (l.length - n) c1)).heap[b0]? = W.heap[b0]? := by rw [e.block b0 (by rw [hW]; exact q3) q9, hW]
 refine ⟨b0, o1, rfl, q2, by have := e.size; rw [hW] at this; omega, fun i x hx => (cell_same hb2 _).trans ?_⟩
 rw [ho hlen, Nat.add_assoc]
 rw [List.getElem?_drop] at hx
 exact q5 (n + i) x hx
set_option maxRecDepth 100000 in
set_option maxHeartbeats 4000000 in
theorem rnumber_any {N : Nat → Prop} {w : World} {rb n : Nat} {l : List Int} {bad : Bool} (h : RdAt N w rb l bad) (hN : ¬ N rb) (hn0 : 0 < n) (hn : n ≤ 2) :
  Calls Try.prog 48 #[.pointer (some ⟨rb, 0, none⟩), .int .i64 (n : Int)] w fun e w' => e = .returned (.int .i64 (rdN n l)) ∧ RdAt N w' rb (rdL n l) (rdB n l bad) ∧ Ext (fun q => q = rb) w w' := by
 obtain ⟨a, c, h1, h2, h3⟩ := h.var
 obtain ⟨m, hm⟩ : ∃ m, m = l.length := ⟨_, rfl⟩
 have hm9 := h.len
 rw [← hm] at h1 h2 hm9
 have c0 : w.cell? ⟨rb, 0, none⟩ = some (.slice a m c) := (cell_of_blk h1 0).trans rfl
 have c1 : w.cell? ⟨rb, 1, none⟩ = some (.bool bad) := (cell_of_blk h1 1).trans rfl
 have f0 : w.frozen? ⟨rb, 0, none⟩ = false := frozen_of_blk h1 0
 have f1 : w.frozen? ⟨rb, 1, none⟩ = false := frozen_of_blk h1 1
 by_cases hl : m < n
 ·have hlI : (m : Int) < (n : Int) := by omega
  have hsh : l.length < n := by omega
  have H := Sealed.mk (And.intro h (And.intro hsh (And.intro hm hN))); clear h h1 h3 hm hsh hN
  go_enter Try.func48, Try.ntmps48
  go_wp2_with fail
  go_ret
  have e0 : rdN n l = 0 := by unfold rdN; rw [if_pos H.out.2.1]
  refine ⟨by rw [e0]; rfl, ?_, (Ext.refl (fun q => q = rb) w).setCell (p := ⟨rb, 1, none⟩) (.inl rfl) _⟩
  unfold rdL rdB
  rw [if_pos H.out.2.1, if_pos H.out.2.1]
  exact H.out.1.setBad H.out.2.2.2 rfl
 ·obtain ⟨bb, oo, rfl, q2, q3, q5⟩ := h3 (fun e => by rw [e] at hm; simp at hm; omega)
  have hlI : ¬ (m : Int) < (n : Int) := by omega
  have H := Sealed.mk (And.intro h (And.intro h1 (And.intro h2 (And.intro q5 (And.intro hm hN))))); clear h h1 h2 hm q5 q2 q3 h3 hN
  go_enter Try.func48, Try.ntmps48
  go_wp2_with fail
  go_loopg [5, 6] n (fun jj xv iv W => ∃ i : Nat, jj = n - i ∧ i ≤ n ∧ iv = .int .i64 (i : Int) ∧ xv = .int .i64 (rdX l i) ∧ W = w)
  case atStart => exact ⟨0, rfl, Nat.zero_le _, rfl, rfl, rfl⟩
  case round =>
   obtain ⟨i, rfl, hi, rfl, rfl, rfl⟩ := hrel
   by_cases hin : i < n
   ·obtain ⟨x, hx⟩ : ∃ x, l[i]? = some x := ⟨_, List.getElem?_eq_getElem (by have := H.out.2.2.2.2.1; omega)⟩
    have cx := H.out.2.2.2.1 i x hx
    have hxr := H.out.1.range x (List.mem_of_getElem? hx)
    have hr := rdX_range H.out.1.range (i := i) (by omega) (by have := H.out.2.2.2.2.1; omega)
    obtain ⟨z, hz⟩ : ∃ z, z = rdX l i := ⟨_, rfl⟩
    rw [← hz] at hr
    have hi1 : i ≤ 1 := by omega
    have hz1 := hr.2.2 hi1
    have w1 : wrap64 (256 * z) = 256 * z := w64_in (by omega) (by omega)
    have w2 : wrap64 (256 * z + x) = 256 * z + x := w64_in (by omega) (by omega)
    have w3 : IntKind.i64.wrap x = x := i64_in (by omega) (by omega)
    have hinI : (i : Int) < (n : Int) := by omega
    have himI : (i : Int) < (m : Int) := by omega
    have HX := Sealed.mk (And.intro hx hz)
    rw [← hz]
    clear hx hz hr hz1 hxr
    go_wp2_with fail
    go_roundg (n - (i + 1))
    case measure => clear w1 w2 w3; omega
    case rel => exact ⟨i + 1, rfl, (by clear w1 w2 w3; omega), by push_cast; rfl, by rw [rdX_succ HX.out.1, ← HX.out.2, w2], rfl⟩
   ·obtain rfl : i = n := by omega
    have hr := rdX_range H.out.1.range (i := i) hn (by have := H.out.2.2.2.2.1; omega)
    obtain ⟨z, hz⟩ : ∃ z, z = rdX l i := ⟨_, rfl⟩
    have hnm : (i : Int) ≤ (m : Int) := by omega
    have HZ := Sealed.mk hz
    rw [← hz]
    clear hz hr
    go_wp2_with fail
    all_goals
     go_ret
     rename_i hci
     have hm := H.out.2.2.2.2.1
     have hnl : ¬ l.length < i := by omega
     have e1 : rdN i l = z := by unfold rdN; rw [if_neg hnl, HZ.out]
     have e2 : rdL i l = l.drop i := by unfold rdL; rw [if_neg hnl]
     have e3 : rdB i l bad = bad := by unfold rdB; rw [if_neg hnl]
     rw [e1, e2, e3]
     have hcm := H.out.2.2.1
     have hv9 := H.out.2.1
     rw [hm] at hv9
    ·have h9 := H.out.1.setL (n := i) (o1 := oo) (c1 := 0) H.out.2.2.2.2.2 (W1 := wr) rfl hv9 (by omega) (by omega) (by omega)
     rw [← hm] at h9
     exact ⟨rfl, h9, (Ext.refl (fun q => q = rb) wr).setCell (p := ⟨rb, 0, none⟩) (.inl rfl) _⟩
    ·have h9 := H.out.1.setL (n := i) (o1 := oo + i) (c1 := c - i) H.out.2.2.2.2.2 (W1 := wr) rfl hv9 (by omega) (by omega) (fun _ => rfl)
     rw [← hm] at h9
     exact ⟨rfl, h9, (Ext.refl (fun q => q = rb) wr).setCell (p := ⟨rb, 0, none⟩) (.inl rfl) _⟩
end Go.Proofs.Ytgchfbfgjanaiaa

namespace Go.Proofs.Ytgchfbfgjanaiaa
open Go.RowKit Sr
theorem RTL.afterZ {U : List Int} {w w' : World} {b b' : RB} {vs vs' : List Int} {v : Value} {l : List (Bool × Int)} (h : RTL w v (encZ vs l)) (s : RStep U w w' b b' vs vs') (hi : RInv w b vs U) : RTL w' v (encZ vs l) := by
 by_cases hl : l = []
 ·subst hl
  obtain ⟨h1, h2, a, c, rfl, h3, h4⟩ := h
  exact ⟨h1, fun q hq => Nat.lt_of_lt_of_le (h2 q hq) s.ext.size, a, c, rfl, h3, fun h => absurd rfl h⟩
 ·exact h.step s (h.notM hi (by intro e; apply hl; cases l with
   | nil => rfl
   | cons t l => simp [encZ] at e))
def RFormedOut (U : List Int) (w : World) (b : RB) (vs : List Int) (l : List (Bool × Int)) (e : Ending) (w' : World) : Prop :=
 ∃ vs' b' d, e = .returned (.bool d) ∧ (d = true ↔ FormedZ l) ∧ RStep U w w' b b' vs vs'
set_option maxRecDepth 100000 in
set_option maxHeartbeats 4000000 in
theorem rformed_any {U : List Int} {w : World} {b : RB} {vs : List Int} {v : Value} {l : List (Bool × Int)} (h : RInv w b vs U) (hl : RTL w v (encZ vs l)) (hin : ∀ t ∈ l, t.2 ∈ vs) (hN : ∀ t ∈ l, 0 ≤ t.2 → RNext U t.2.toNat) :
  Calls Try.prog 49 #[.pointer (some ⟨b.p, 0, none⟩), v] w (RFormedOut U w b vs l) := by
 obtain ⟨a, c, rfl⟩ := hl.len
 obtain ⟨n, hn⟩ : ∃ n, n = l.length := ⟨_, rfl⟩
 have hn2 : (encZ vs l).length = n := by rw [encZ_length, hn]
 obtain ⟨-, hn1, hnc, hcl⟩ := hl.cells
 rw [hn2] at hn1 hnc ⊢
 have hcell : ∀ {k : Nat} {t : Bool × Int}, l[k]? = some t → ∃ bb oo, a = some ⟨bb, oo, none⟩ ∧ vs[vs.idxOf t.2]? = some t.2 ∧ ∀ {W : World} {b1 : RB} {vs1 : List Int}, RStep U w W b b1 vs vs1 → W.cell? ⟨bb, oo + k * 2 + 1, none⟩ = some (.int .i64 (vs.idxOf t.2 : Nat)) := fun {k t} ht => by
  have hs' : (encZ vs l)[k]? = some (t.1, vs.idxOf t.2) := by simp [encZ, ht]
  obtain ⟨bb, oo, rfl, -, -⟩ := hcl k _ hs'
  refine ⟨bb, oo, rfl, idxOf_get (hin t (List.mem_of_getElem? ht)), fun {W b1 vs1} st => ?_⟩
  have h1 := hl.afterZ st h
  rw [hn2] at h1
  obtain ⟨-, -, -, hcl2⟩ := h1.cells
  obtain ⟨bb', oo', e1, c1, c2⟩ := hcl2 k _ hs'
  obtain ⟨rfl, rfl⟩ : bb = bb' ∧ oo = oo' := by simpa using e1
  exact c2
 have HC := Sealed.mk @hcell
 have H := Sealed.mk (And.intro h (And.intro hN hn))
 clear hcell h hN hn hl hin hcl hn2
 go_enter Try.func49, Try.ntmps49
 go_wp2_with fail
 go_loopg [5] n (fun jj iv W => ∃ (k : Nat) (vs1 : List Int) (b1 : RB), jj = n - k ∧ k ≤ n ∧ iv = .int .i64 (k : Int) ∧ Sealed (RStep U w W b b1 vs vs1 ∧ ∀ i, i < k → GoodAt l i))
 case atStart => exact ⟨0, vs, b, rfl, Nat.zero_le _, rfl, ⟨RStep.refl H.out.1, fun i h => by omega⟩⟩
 case round =>
  obtain ⟨k, vs1, b1, rfl, hk, rfl, HR⟩ := hrel
  by_cases hkn : k < n
  ·obtain ⟨⟨m, e⟩, ht⟩ : ∃ t, l[k]? = some t := ⟨_, List.getElem?_eq_getElem (by have := H.out.2.2; omega)⟩
   obtain ⟨bb, oo, rfl, hvs, hcs⟩ := HC.out ht
   obtain ⟨p, hp⟩ : ∃ p, p = vs.idxOf e := ⟨_, rfl⟩
   simp only [← hp] at hvs hcs
   have hkn' : (k : Int) < (n : Int) := by omega
   have hk1w : wrap64 ((k : Int) + 1) = (k : Int) + 1 := by unfold wrap64; omega
   have hsg : ∀ W, RInv W b1 vs1 U → Calls Try.prog 60 #[.pointer (some ⟨b.p, 0, none⟩), .int .i64 (p : Int)] W fun r w' => r = .returned (.int .i64 (sg e)) ∧ w' = W := fun W hW => by
    have := rSign_any hW (pre_get HR.out.1.pre hvs)
    rw [HR.out.1.p] at this
    exact this
   have HSG := Sealed.mk hsg; clear hsg
   have c1 := hcs HR.out.1
   by_cases he : e < 0
   ·have hbad : ¬ FormedZ l := fun hf => by have := (hf k _ ht).1; simp only at this; omega
    have hs1 : sg e = -1 := by unfold sg; rw [if_pos he]
    have hsg2 : ∀ q, Calls Try.prog 60 #[.pointer (some ⟨b.p, 0, none⟩), .int .i64 (p : Int)] (wr.drewN q) fun r w' => r = .returned (.int .i64 (sg e)) ∧ w' = wr.drewN q := fun q => HSG.out _ (HR.out.1.drN q).inv
    obtain ⟨sv, hsv⟩ : ∃ z, z = sg e := ⟨_, rfl⟩
    rw [← hsv] at hsg2 hs1
    have bS : decide (sv < 0) = true := decide_eq_true (by omega)
    have HB := Sealed.mk (And.intro hbad hsg2)
    clear hbad hsg2 hs1 hsv he hcs hvs hp ht
    go_wp2_with fail
    go_quiet (first | (go_at_call 60; exact Calls.quiet_of_same (HB.out.2 _)))
    go_wp2_with fail
    go_ret
    exact ⟨vs1, b1, false, rfl, by simp only [Bool.false_eq_true, false_iff]; exact HB.out.1, HR.out.1.drN _⟩
   ·have hge : ¬ sg e < 0 := by unfold sg; rw [if_neg he]; split <;> omega
    obtain ⟨sv, hsv⟩ : ∃ z, z = sg e := ⟨_, rfl⟩
    rw [← hsv] at hge
    have bS : decide (sv < 0) = false := decide_eq_false hge
    by_cases hk0 : k = 0
    ·subst hk0
     have hsg2 : ∀ q, Calls Try.prog 60 #[.pointer (some ⟨b.p, 0, none⟩), .int .i64 (p : Int)] (wr.drewN q) fun r w' => r = .returned (.int .i64 sv) ∧ w' = wr.drewN q := fun q => by rw [hsv]; exact HSG.out _ (HR.out.1.drN q).inv
     have hg : GoodAt l 0 := fun t ht2 => by
      rw [ht] at ht2
      obtain rfl := Option.some.inj ht2
      exact ⟨by simp only; omega, fun s h0 => by omega⟩
     have HB := Sealed.mk (And.intro hg hsg2)
     clear hg hsg2 hsv he hcs hvs hp ht
     go_wp2_with fail
     go_quiet (first | (go_at_call 60; exact Calls.quiet_of_same (HB.out.2 _)))
     go_wp2_with fail
     go_roundg (n - (0 + 1))
     case measure => omega
     case rel => exact ⟨0 + 1, vs1, b1, rfl, by omega, by push_cast; rfl, ⟨HR.out.1.drN _, fun i hi => by
      obtain rfl : i = 0 := by omega
      exact HB.out.1⟩⟩
    ·obtain ⟨ka, hka⟩ : ∃ ka, k = ka + 1 := ⟨k - 1, by omega⟩
     obtain ⟨⟨m2, f⟩, ht2⟩ : ∃ t, l[ka]? = some t := ⟨_, List.getElem?_eq_getElem (by have := H.out.2.2; omega)⟩
     obtain ⟨bb', oo', e1, hvs2, hcs2⟩ := HC.out ht2
     obtain ⟨rfl, rfl⟩ : bb = bb' ∧ oo = oo' := by simpa using e1
     obtain ⟨p2, hp2⟩ : ∃ p, p = vs.idxOf f := ⟨_, rfl⟩
     simp only [← hp2] at hvs2 hcs2
     have hk2 : (0 : Int) < (k : Int) := by omega
     have hk2n : 0 < k := by omega
     have bK : decide ((0 : Int) < (k : Int)) = true := decide_eq_true hk2
     have bKn : decide (0 < k) = true := decide_eq_true hk2n
     have hen : ((e.toNat : Nat) : Int) = e := Int.toNat_of_nonneg (by omega)
     have HNX : Sealed (RNext U e.toNat) := ⟨H.out.2.1 _ (List.mem_of_getElem? ht) (by simp only; omega)⟩
     obtain ⟨cv, hcv⟩ : ∃ z, z = sg (f - (e + 1)) := ⟨_, rfl⟩
     have hgood : ¬ cv ≤ 0 ↔ GoodAt l k := by
      constructor
      ·intro h t ht3
       rw [ht] at ht3
       obtain rfl := Option.some.inj ht3
       refine ⟨by simp only; omega, fun s _ hs => ?_⟩
       rw [show k - 1 = ka by omega, ht2] at hs
       obtain rfl := Option.some.inj hs
       simp only
       rw [hcv] at h
       unfold sg at h
       split at h <;> (try split at h) <;> omega
      ·intro hg
       have := (hg _ ht).2 (m2, f) (by omega) (by rw [show k - 1 = ka by omega]; exact ht2)
       simp only at this
       rw [hcv]
       unfold sg
       rw [if_neg (by omega), if_neg (by omega)]
       omega
     have hka2 : (ka : Int) < (n : Int) := by omega
     have hka0 : (0 : Int) ≤ (ka : Int) := by omega
     have hw3 : (k : Int) - 1 = (ka : Int) := by omega
     have hz1 : (0 : Int) ≤ (ka : Int) ∧ (ka : Int) ≤ 1000000000 := by omega
     have hw4 : wrap64 (ka : Int) = (ka : Int) := small_w64 hz1.1 hz1.2
     have hw5 : IntKind.i64.wrap (ka : Int) = (ka : Int) := small_i64 hz1.1 hz1.2
     have hw1 : wrap64 ((k : Int) - 1) = (ka : Int) := (congrArg wrap64 hw3).trans hw4
     have hw2 : IntKind.i64.wrap ((k : Int) - 1) = (ka : Int) := (congrArg IntKind.i64.wrap hw3).trans hw5
     have HG := Sealed.mk (And.intro hgood (And.intro hsv (And.intro hcv (And.intro hen (And.intro hvs hvs2)))))
     have HCS := Sealed.mk (And.intro @hcs @hcs2)
     clear hgood hsv hcv hen hcs hcs2 hvs hvs2 hp hp2 ht ht2 he e1 hka c1
     go_upto_region 4 with fail
     go_cut [41] from 12 to 41 (fun tv wx => ∃ cb : Bool, tv = .bool cb ∧ (cb = false ↔ GoodAt l k) ∧ ∃ b2 vs2, RStep U w wx b b2 vs vs2)
     case first =>
      have P := Sealed.mk HR.out.1.dr
      go_region_held3 (fun W' => W'.cell? ⟨bb, oo + k * 2 + 1, none⟩ = some (.int .i64 (p : Int)) ∧ W'.cell? ⟨bb, oo + ka * 2 + 1, none⟩ = some (.int .i64 (p2 : Int)))
       (exact ⟨HCS.out.1 P.out, HCS.out.2 P.out⟩)
       (first
        | (go_at_call 60; go_must ((with_reducible refine (HSG.out _ P.out.inv).mono ?_); rintro e1 w1 ⟨rfl, rfl⟩; rw [← HG.out.2.1]))
        | (go_at_call 68; go_must (have hq := RNext.call HNX.out P.out.inv (by rw [HG.out.2.2.2.1]; exact pre_get P.out.pre HG.out.2.2.2.2.1); rw [P.out.p] at hq; (with_reducible refine hq.mono ?_); clear hq; rintro e2 w2 ⟨vs2, b2, j1, rfl, hj1, hs1⟩; replace P := Sealed.mk (P.out.trans hs1); have J1 := Sealed.mk hj1; clear hj1 hs1))
        | (go_at_call 86; go_must (have hq := rCmp_at (pre_get P.out.pre HG.out.2.2.2.2.2) J1.out P.out.inv; rw [P.out.p, HG.out.2.2.2.1, ← HG.out.2.2.1] at hq; (with_reducible refine hq.mono ?_); clear hq; rintro e3 w3 ⟨rfl, q3, hq3⟩; replace P := Sealed.mk (P.out.trans (r_done P.out.inv hq3)); clear hq3)))
      all_goals
       go_wp2_with fail
       go_meet
       case rel => exact ⟨_, rfl, by rw [decide_eq_false_iff_not]; exact (by clear hw1 hw2 hw3 hw4 hw5 hz1; have h9 := HG.out.1; rw [← h9]; omega), b2, vs2, P.out⟩
     case rest =>
      obtain ⟨cb, rfl, hcb, b2, vs2, hst⟩ := hcut
      obtain ⟨W2, hW2⟩ : ∃ W2, W2 = wc := ⟨_, rfl⟩
      rw [← hW2] at hst ⊢
      clear hW2
      have P := Sealed.mk hst; clear hst
      have HB := Sealed.mk hcb; clear hcb
      clear hw1 hw2 hw3 hw4 hw5 hz1
      rcases cb with _ | _
      case true =>
       go_wp2_with fail
       go_ret
       exact ⟨vs2, b2, false, rfl, by simp only [Bool.false_eq_true, false_iff]; exact (fun hf => (by have := HB.out.2 (hf k); simp at this)), P.out⟩
      case false =>
       go_wp2_with fail
       go_roundg (n - (k + 1))
       case measure => omega
       case rel => exact ⟨k + 1, vs2, b2, rfl, by omega, by push_cast; rfl, ⟨P.out, fun i hi => by
        by_cases h : i < k
        ·exact HR.out.2 i h
        ·obtain rfl : i = k := by omega
         exact HB.out.1 (by simp)⟩⟩
  ·obtain rfl : k = n := by omega
   have hok : FormedZ l := fun i => by
    by_cases h : i < k
    ·exact HR.out.2 i h
    ·intro t ht
     have := (List.getElem?_eq_some_iff.1 ht).1
     have := H.out.2.2
     omega
   have HB := Sealed.mk hok; clear hok
   go_wp2_with fail
   go_ret
   exact ⟨vs1, b1, true, rfl, by simp only [true_iff]; exact HB.out, HR.out.1⟩
end Go.Proofs.Ytgchfbfgjanaiaa

namespace Go.Proofs.Ytgchfbfgjanaiaa
open Go.RowKit Sr
theorem RStep.more {U V : List Int} {w w' : World} {b b' : RB} {vs vs' : List Int} (h : RStep U w w' b b' vs vs') (hs : ∀ x ∈ U, x ∈ V) (hr : V.length ≤ roomW) : RStep V w w' b b' vs vs' := { h with inv := h.inv.more hs hr }
theorem RStep.oth {U : List Int} {w W W' : World} {b b1 : RB} {vs vs1 : List Int} {M : Nat → Prop} (h : RStep U w W b b1 vs vs1) (e : Ext M W W') (hM : ∀ q, M q → w.heap.size ≤ q) (ht : ∀ q, M q → ∀ t, TyBlk W q t → t ≠ 88 ∧ t ≠ 42 ∧ t ≠ 49) : RStep U w W' b b1 vs vs1 where
 inv := h.inv.other e ht
 pre := h.pre
 ext := h.ext.trans e fun q hq => .inr (hM q hq)
 p := h.p
 f := h.f
 forms := fun q hq => by
  obtain ⟨i, v, h1, h2, h3⟩ := hq
  refine h.forms q ⟨i, v, h1, ?_, h3⟩
  obtain ⟨cap, cur, f1, f2, -⟩ := h.inv.forms
  rw [← cell_same (e.block b1.f (lt_of_blk f2) fun hm => (ht _ hm _ ⟨_, _, f2⟩).2.1 rfl) i]
  exact h2
theorem ty_same {w : World} {q t t' : Nat} (h : TyBlk w q t) (h' : TyBlk w q t') : t = t' := by
 obtain ⟨_, _, e⟩ := h
 obtain ⟨_, _, e'⟩ := h'
 rw [e] at e'
 simp only [Option.some.injEq, Obj.cells.injEq] at e'
 exact e'.2.1
theorem own_ty9 {w : World} {B t s n q : Nat} {v : Value} {xs : List Value} (h : w.ownsRow B t s v n xs) (hq : v.ownBlock = some q) : TyBlk w q t := by
 obtain ⟨cs, -, e⟩ := own_typ5 h hq
 exact ⟨_, _, e⟩
theorem RdAt.ty {N : Nat → Prop} {W : World} {rb : Nat} {l : List Int} {bad : Bool} (h : RdAt N W rb l bad) : TyBlk W rb 91 := by
 obtain ⟨a, c, h1, -⟩ := h.var
 exact ⟨_, _, h1⟩
def oldN (w : World) (b : RB) : Nat → Prop := fun q => q < w.heap.size ∧ ¬ b.M q
structure RLD (w W : World) (b0 b1 : RB) (rb : Nat) (nums vs1 : List Int) (pv : Value) (left : List Int) (bad : Bool) : Prop where
 st : RStep (rldU nums) w W b0 b1 [0] vs1
 own : W.ownsRow w.heap.size 3 1 pv nums.length (icells (nums.map fun y => vs1.idxOf y))
 rd : RdAt (oldN w b0) W rb left bad
 rbge : w.heap.size ≤ rb
 mem : ∀ y ∈ nums, y ∈ vs1
 good : GoodR nums
section
variable {w W W' : World} {b0 b1 b2 : RB} {rb : Nat} {nums vs1 vs2 left left' : List Int} {pv rv pv' rv' : Value} {bad bad' : Bool} {M : Nat → Prop} {tl : List (Bool × Int)}
theorem RLD.p (h : RLD w W b0 b1 rb nums vs1 pv left bad) : b1.p = b0.p := h.st.p
theorem RLD.write (h : RLD w W b0 b1 rb nums vs1 pv left bad) (e : Ext M W W') (hM : ∀ q, M q → w.heap.size ≤ q) (ht : ∀ q, M q → ∀ t, TyBlk W q t → t ≠ 88 ∧ t ≠ 42 ∧ t ≠ 49 ∧ t ≠ 3 ∧ t ≠ 91) : RLD w W' b0 b1 rb nums vs1 pv left bad where
 st := h.st.oth e hM fun q hq t h' => ⟨(ht q hq t h').1, (ht q hq t h').2.1, (ht q hq t h').2.2.1⟩
 own := own_ext h.own e fun q hq hm => (ht q hm _ (own_ty9 h.own hq)).2.2.2.1 rfl
 rd := h.rd.keep e (fun hm => (ht _ hm _ h.rd.ty).2.2.2.2 rfl) fun q hq h' => by have := hM q hq; have := h'.1; omega
 rbge := h.rbge
 mem := h.mem
 good := h.good
theorem RLD.adv (h : RLD w W b0 b1 rb nums vs1 pv left bad) (e : Below W.heap.size W W') : RLD w W' b0 b1 rb nums vs1 pv left bad :=
 h.write (M := noB) (Ext.of_below e) (fun _ h => h.elim) fun _ h => h.elim
theorem RLD.read (h : RLD w W b0 b1 rb nums vs1 pv left bad) (e : Ext (fun q => q = rb) W W') (hl : RdAt (oldN w b0) W' rb left' bad') : RLD w W' b0 b1 rb nums vs1 pv left' bad' where
 st := h.st.oth e (fun q hq => by rw [hq]; exact h.rbge) fun q hq t h' => by rw [hq] at h'; rw [ty_same h' h.rd.ty]; decide
 own := own_ext h.own e fun q hq hm => by
  have h1 := own_ty9 h.own hq
  rw [hm] at h1
  exact absurd (ty_same h1 h.rd.ty) (by decide)
 rd := hl
 rbge := h.rbge
 mem := h.mem
 good := h.good
theorem RLD.oldM (h : RLD w W b0 b1 rb nums vs1 pv left bad) : ∀ k, b1.M k → ¬ oldN w b0 k := fun k hk hn => by
 rcases h.st.news k hk with h1 | h1
 ·exact hn.2 h1
 ·have := hn.1; omega
theorem RLD.step (h : RLD w W b0 b1 rb nums vs1 pv left bad) {U : List Int} (hU : U = rldU nums) (hs : RStep U W W' b1 b2 vs1 vs2) : RLD w W' b0 b2 rb nums vs2 pv left bad := by
 subst hU
 refine ⟨h.st.trans hs, ?_, h.rd.keep hs.ext (h.st.inv.notM h.rd.ty (by decide) (by decide)) h.oldM, h.rbge, fun y hy => hs.pre.subset (h.mem y hy), h.good⟩
 have e : nums.map (fun y => vs2.idxOf y) = nums.map (fun y => vs1.idxOf y) := List.map_congr_left fun y hy => idxOf_prefix hs.pre (h.mem y hy)
 rw [e]
 exact own_ext h.own hs.ext fun q hq => h.st.inv.notM (own_ty9 h.own hq) (by decide) (by decide)
theorem forms_keep {U : List Int} {w w' : World} {b : RB} {vs : List Int} {q : Nat} (hb : Below w.heap.size w w') (hi : RInv w b vs U) (h : InForms w' b vs q) : InForms w b vs q := by
 obtain ⟨i, v, h1, h2, h3⟩ := h
 exact ⟨i, v, h1, by rw [← cell_same (hb.block _ (hi.lt b.f (.inr rfl))) i]; exact h2, h3⟩
structure RLK (w W : World) (b0 b1 : RB) (rb : Nat) (nums vs1 : List Int) (pv : Value) (left : List Int) (bad : Bool) (tl : List (Bool × Int)) (rv : Value) : Prop where
 ld : RLD w W b0 b1 rb nums vs1 pv left bad
 own : W.ownsRow w.heap.size 49 2 rv tl.length (tcells (encZ vs1 tl))
 mem : ∀ t ∈ tl, t.2 ∈ nums
 free : ∀ q, rv.ownBlock = some q → ¬ InForms W b1 vs1 q
theorem RLK.read (h : RLK w W b0 b1 rb nums vs1 pv left bad tl rv) (e : Ext (fun q => q = rb) W W') (hl : RdAt (oldN w b0) W' rb left' bad') : RLK w W' b0 b1 rb nums vs1 pv left' bad' tl rv where
 ld := h.ld.read e hl
 own := own_ext h.own e fun q hq hm => by
  have h1 := own_ty9 h.own hq
  rw [hm] at h1
  exact absurd (ty_same h1 h.ld.rd.ty) (by decide)
 mem := h.mem
 free := fun q hq ⟨i, v, h1, h2, h3⟩ => by
  refine h.free q hq ⟨i, v, h1, ?_, h3⟩
  obtain ⟨cap, cur, f1, f2, -⟩ := h.ld.st.inv.forms
  rw [← cell_same (e.block b1.f (lt_of_blk f2) fun hm => absurd (ty_same ⟨_, _, f2⟩ (by rw [hm]; exact h.ld.rd.ty)) (by decide)) i]
  exact h2
theorem RLK.adv (h : RLK w W b0 b1 rb nums vs1 pv left bad tl rv) (e : Below W.heap.size W W') : RLK w W' b0 b1 rb nums vs1 pv left bad tl rv where
 ld := h.ld.adv e
 own := own_ext h.own (Ext.of_below (M := noB) e) fun _ _ h => h
 mem := h.mem
 free := fun q hq ⟨i, v, h1, h2, h3⟩ => h.free q hq ⟨i, v, h1, by rw [← cell_same (e.block _ (h.ld.st.inv.lt b1.f (.inr rfl))) i]; exact h2, h3⟩
theorem RLK.step (h : RLK w W b0 b1 rb nums vs1 pv left bad tl rv) {U : List Int} (hU : U = rldU nums) (hs : RStep U W W' b1 b2 vs1 vs2) : RLK w W' b0 b2 rb nums vs2 pv left bad tl rv where
 ld := h.ld.step hU hs
 own := by
  rw [encZ_prefix hs.pre fun t ht => h.ld.mem _ (h.mem t ht)]
  exact own_ext h.own hs.ext fun q hq => h.ld.st.inv.notM (own_ty9 h.own hq) (by decide) (by decide)
 mem := h.mem
 free := fun q hq hh => by
  rcases hs.forms q hh with h1 | h1
  ·exact h.free q hq h1
  ·have := (h.own.lt q hq).2; omega
theorem RLK.push (h : RLK w W b0 b1 rb nums vs1 pv left bad tl rv) {m : Bool} {z : Int} (hz : z ∈ nums) (hg : W.grownBy W' rv.ownBlock) (hn : NewOr W rv rv') (hown : W'.ownsRow w.heap.size 49 2 rv' (tl.length + 1) (tcells (encZ vs1 tl) ++ [.bool m, .int .i64 (vs1.idxOf z : Nat)])) :
  RLK w W' b0 b1 rb nums vs1 pv left bad (tl ++ [(m, z)]) rv' := by
 have hx : Ext (fun q => rv.ownBlock = some q) W W' := ⟨hg.os, hg.tape, hg.output, hg.size, fun q hq hn => hg.block q hq fun e => hn e.symm⟩
 have hty : ∀ q, rv.ownBlock = some q → TyBlk W q 49 := fun q hq => own_ty9 h.own hq
 have hnM : ∀ q, rv.ownBlock = some q → ¬ b1.M q := fun q hq => h.ld.st.inv.notM (hty q hq) (by decide) (by decide)
 have hge : ∀ q, rv.ownBlock = some q → w.heap.size ≤ q := fun q hq => own_ge h.own q hq
 have hf : ∀ q, InForms W' b1 vs1 q → InForms W b1 vs1 q := fun q ⟨i, v, h1, h2, h3⟩ => ⟨i, v, h1, by rw [← cell_same (hx.block _ (h.ld.st.inv.lt b1.f (.inr rfl)) fun hm => hnM _ hm (.inr rfl)) i]; exact h2, h3⟩
 have hinv : RInv W' b1 vs1 (rldU nums) := by
  rcases hdv : rv.ownBlock with _ | g
  ·exact h.ld.st.inv.ext (N := noB) ⟨hg.os, hg.tape, hg.output, hg.size, fun q hq _ => hg.block q hq (by rw [hdv]; simp)⟩ fun _ h _ => h
  ·exact h.ld.st.inv.put (g := g) ⟨hg.os, hg.tape, hg.output, hg.size, fun q hq hn => hg.block q hq (by rw [hdv]; simpa using hn)⟩ (hnM g hdv) (h.free g hdv)
 refine ⟨⟨⟨hinv, h.ld.st.pre, h.ld.st.ext.trans hx fun q hq => .inr (hge q hq), h.ld.st.p, h.ld.st.f, fun q hq => h.ld.st.forms q (hf q hq)⟩, ?_, ?_, h.ld.rbge, h.ld.mem, h.ld.good⟩, ?_, fun t ht => ?_, fun q hq hh => ?_⟩
 ·exact own_ext h.ld.own hx fun q hq hm => absurd (ty_same (own_ty9 h.ld.own hq) (hty q hm)) (by decide)
 ·exact h.ld.rd.keep hx (fun hm => absurd (ty_same h.ld.rd.ty (hty _ hm)) (by decide)) fun q hq h' => by have := hge q hq; have := h'.1; omega
 ·have e : tcells (encZ vs1 (tl ++ [(m, z)])) = tcells (encZ vs1 tl) ++ [.bool m, .int .i64 (vs1.idxOf z : Nat)] := by simp [encZ, tcells_append, tcells]
  rw [e, List.length_append]
  exact hown
 ·rcases List.mem_append.1 ht with ht | ht
  ·exact h.mem t ht
  ·simp at ht; subst ht; exact hz
 ·rcases hn with e | ⟨k, e, hk⟩
  ·exact h.free q (by rw [← e]; exact hq) (hf q hh)
  ·rw [e] at hq
   obtain rfl := Option.some.inj hq
   have := (h.ld.st.inv.inForms (hf _ hh)).1
   omega
theorem RLD.push (h : RLD w W b0 b1 rb nums vs1 pv left bad) (hl : nums.length ≤ 2999) {y : Int} {W'' : World} (hs : RStep (rldU (nums ++ [y])) W W' b1 b2 vs1 vs2) (hy : y ∈ vs2) (hw : wl y ≤ 1000) (he : ∀ e ∈ exps y, (e : Int) ∈ nums)
  (hg : W'.grownBy W'' pv.ownBlock) (hown : W''.ownsRow w.heap.size 3 1 pv' (nums.length + 1) (icells (nums.map fun y => vs1.idxOf y) ++ [.int .i64 (vs2.idxOf y : Nat)])) :
  RLD w W'' b0 b2 rb (nums ++ [y]) vs2 pv' left bad := by
 have hst := (h.st.more (V := rldU (nums ++ [y])) (fun _ hx => rldU_mono hx) (rldU_length (by simp; omega))).trans hs
 have hown1 := own_ext h.own hs.ext fun q hq => h.st.inv.notM (own_ty9 h.own hq) (by decide) (by decide)
 have hrd1 := h.rd.keep hs.ext (h.st.inv.notM h.rd.ty (by decide) (by decide)) h.oldM
 have hx : Ext (fun q => pv.ownBlock = some q) W' W'' := ⟨hg.os, hg.tape, hg.output, hg.size, fun q hq hn => hg.block q hq fun e => hn e.symm⟩
 refine ⟨hst.oth hx (fun q hq => own_ge hown1 q hq) fun q hq t ht => by rw [ty_same ht (own_ty9 hown1 hq)]; decide, ?_, ?_, h.rbge, fun z hz => ?_, h.good.push hw he⟩
 ·have e : (nums ++ [y]).map (fun y => vs2.idxOf y) = nums.map (fun y => vs1.idxOf y) ++ [vs2.idxOf y] := by
   rw [List.map_append]
   congr 1
   exact List.map_congr_left fun z hz => idxOf_prefix hs.pre (h.mem z hz)
  rw [e, List.length_append]
  unfold icells
  rw [List.map_append]
  exact hown
 ·exact hrd1.keep hx (fun hm => absurd (ty_same hrd1.ty (own_ty9 hown1 hm)) (by decide)) fun q hq h' => by have := own_ge hown1 q hq; have := h'.1; omega
 ·rcases List.mem_append.1 hz with hz | hz
  ·exact hs.pre.subset (h.mem z hz)
  ·simp at hz; subst hz; exact hy
theorem trk_read {l0 : List Int} {c n k : Nat} (h : TrK l0 c nums n k tl left) (hk : k < n) :
  ((1 < rdN 1 left ∨ (nums.length : Int) ≤ rdN 2 (rdL 1 left)) → ¬ ∃ x, Allowed x ∧ bytesN x = l0) ∧ (rdB 2 (rdL 1 left) (rdB 1 left false) = true → ¬ ∃ x, Allowed x ∧ bytesN x = l0) ∧
  (rdB 2 (rdL 1 left) (rdB 1 left false) = false → (rdL 2 (rdL 1 left)).length + 3 = left.length ∧ ∀ (q : Nat) (z : Int), rdN 2 (rdL 1 left) = (q : Int) → nums[q]? = some z → TrK l0 c nums n (k + 1) (tl ++ [(decide (rdN 1 left = 1), z)]) (rdL 2 (rdL 1 left))) := by
 have key := h.term hk
 match left, h, key with
 | [], _, key =>
   have hno : ¬ ∃ x, Allowed x ∧ bytesN x = l0 := fun hx => by obtain ⟨s, a, at_, l', z, e1, -⟩ := key hx; simp at e1
   exact ⟨fun _ => hno, fun _ => hno, fun e => by simp [rdB, rdL] at e⟩
 | s :: l', h, key =>
   have e1 : rdN 1 (s :: l') = s := by unfold rdN; rw [if_neg (by simp)]; exact rdX_one rfl
   have e2 : rdL 1 (s :: l') = l' := by unfold rdL; rw [if_neg (by simp)]; rfl
   have e3 : rdB 1 (s :: l') false = false := by unfold rdB; rw [if_neg (by simp)]
   rw [e1, e2, e3]
   by_cases hl : l'.length < 2
   ·have hno : ¬ ∃ x, Allowed x ∧ bytesN x = l0 := fun hx => by
     obtain ⟨s', a, at_, l2, z, q1, q2, -⟩ := key hx
     obtain ⟨-, rfl⟩ := List.cons.inj q1
     omega
    exact ⟨fun _ => hno, fun _ => hno, fun e => by rw [(rd_short hl).2.1] at e; simp at e⟩
   ·obtain ⟨f1, f2, f3⟩ := rd_two (l := l') (by omega)
    rw [f1, f2, f3]
    refine ⟨fun hc hx => ?_, fun e => by simp at e, fun _ => ⟨?_, fun q z hq hz => h.next hk hq hz⟩⟩
    ·obtain ⟨s', a, at_, l2, z, q1, q2, q3, q4, q5⟩ := key hx
     obtain ⟨rfl, rfl⟩ := List.cons.inj q1
     rw [q4] at hc
     have := (List.getElem?_eq_some_iff.1 q5).1
     simp only at hc
     omega
    ·match l', hl with
     | [], h => simp at h
     | [_], h => simp at h
     | x :: y :: l2, _ => simp [two2]
theorem rdN_range {l : List Int} (h : ∀ x ∈ l, 0 ≤ x ∧ x < 256) {i : Nat} (hi : i ≤ 2) : 0 ≤ rdN i l ∧ rdN i l < 65536 ∧ (i ≤ 1 → rdN i l < 256) := by
 unfold rdN
 split
 ·omega
 ·exact rdX_range h hi (by omega)
theorem rdL_len (i : Nat) (l : List Int) : (rdL i l).length ≤ l.length := by unfold rdL; split <;> simp
end
end Go.Proofs.Ytgchfbfgjanaiaa

namespace Go.Proofs.Ytgchfbfgjanaiaa
open Go.RowKit Sr
structure BytesR (w : World) (v : Value) (l : List Int) : Prop where
 range : ∀ x ∈ l, 0 ≤ x ∧ x < 256
 at_ : ∃ a c, v = .slice a l.length c ∧ l.length ≤ c ∧ (l ≠ [] → ∃ b o, a = some ⟨b, o, none⟩ ∧ b < w.heap.size ∧ ∀ (i : Nat) (x : Int), l[i]? = some x → w.cell? ⟨b, o + i, none⟩ = some (.int .u8 x))
theorem BytesAt.raw {w : World} {v : Value} {l : List Int} (h : BytesAt w v l) : BytesR w v l := by
 obtain ⟨a, c, h1, h2, h3, h4⟩ := h.at_
 exact ⟨h.range, a, c, h1, h2, fun hl => by obtain ⟨b, o, q1, q2, q3, q4⟩ := h4 hl; exact ⟨b, o, q1, q2, q4⟩⟩
theorem BytesR.far {w w1 : World} {v : Value} {l : List Int} {M : Nat → Prop} (h : BytesR w v l) (e : Ext M w w1) (hM : l ≠ [] → ∀ k, v.ownBlock = some k → k < w.heap.size → ¬ M k) : BytesR w1 v l := by
 obtain ⟨a, c, rfl, h2, h4⟩ := h.at_
 refine ⟨h.range, a, c, rfl, h2, fun hl => ?_⟩
 obtain ⟨b, o, rfl, q2, q4⟩ := h4 hl
 have hb := e.block b q2 (hM hl b rfl q2)
 exact ⟨b, o, rfl, Nat.lt_of_lt_of_le q2 e.size, fun i x hx => (cell_same hb _).trans (q4 i x hx)⟩
theorem BytesR.below {w w1 : World} {v : Value} {l : List Int} (h : BytesR w v l) (e : Below w.heap.size w w1) : BytesR w1 v l :=
 h.far (M := noB) (Ext.of_below e) fun _ _ _ _ h => h
theorem BytesR.lt {w : World} {v : Value} {l : List Int} (h : BytesR w v l) (hl : l ≠ []) : ∀ q, v.ownBlock = some q → q < w.heap.size := by
 obtain ⟨a, c, rfl, h2, h4⟩ := h.at_
 obtain ⟨b, o, rfl, q2, q4⟩ := h4 hl
 intro q hq
 obtain rfl : b = q := Option.some.inj hq
 exact q2
theorem conv_raw {w : World} {v : Value} {l : List Int} (h : BytesR w v l) : ∃ a c, v = .slice a l.length c ∧ (convert 22 9 (.slice a l.length c)).run Try.prog w = .ok (.string (strOfNums l)) w := by
 obtain ⟨a, c, rfl, h2, h4⟩ := h.at_
 refine ⟨a, c, rfl, ?_⟩
 by_cases hn : l = []
 ·subst hn
  rcases a with _ | a
  ·exact run_convert_bytes_nil w 22 5 Try.underlying22 Try.underlying5 0 c 9 Try.underlying9
  ·exact run_convert_bytes_back w 22 9 5 a c [] Try.underlying22 Try.underlying5 Try.underlying9 (fun j hj => by simp at hj)
 ·obtain ⟨b, o, rfl, _, q⟩ := h4 hn
  refine run_convert_bytes_arg w 22 5 Try.underlying22 Try.underlying5 b o _ c l rfl (fun i hi => ?_) 9 Try.underlying9
  exact q i (l.getD i 0) (by rw [List.getD_eq_getElem?_getD, List.getElem?_eq_getElem hi]; rfl)
set_option maxRecDepth 100000 in
set_option maxHeartbeats 4000000 in
theorem Same_raw {w : World} {va vb : Value} {la lb : List Int} (ha : BytesR w va la) (hb : BytesR w vb lb) : Calls Try.prog 19 #[va, vb] w fun e w' => e = .returned (.bool (decide (la = lb))) ∧ w' = w := by
 obtain ⟨aa, ca, rfl, c1⟩ := conv_raw ha
 obtain ⟨ab, cb, rfl, c2⟩ := conv_raw hb
 have hs : (strOfNums la = strOfNums lb) ↔ la = lb := ⟨fun h => strOfNums_inj ha.range hb.range h, fun h => by rw [h]⟩
 have HS := Sealed.mk hs; clear hs
 obtain ⟨na, hna⟩ : ∃ na, na = la.length := ⟨_, rfl⟩
 obtain ⟨nb, hnb⟩ : ∃ nb, nb = lb.length := ⟨_, rfl⟩
 rw [← hna] at c1 ⊢
 rw [← hnb] at c2 ⊢
 clear hna hnb ha hb
 go_enter Try.func19, Try.ntmps19
 go_wp2_with fail
 go_ret
 refine ⟨show Ending.returned (.bool ((strOfNums la).toList == (strOfNums lb).toList)) = _ from ?_, rfl⟩
 rw [btoList, btoList]
 congr 2
 by_cases h : la = lb
 ·subst h
  simp
 ·rw [decide_eq_false h, beq_eq_false_iff_ne]
  intro e
  exact h (HS.out.1 (ByteArray.ext (Array.ext' e)))
end Go.Proofs.Ytgchfbfgjanaiaa
