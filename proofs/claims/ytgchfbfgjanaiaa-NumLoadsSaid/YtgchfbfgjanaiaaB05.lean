/-
 (*sandreckonerref01.World).Parts
 (*sandreckonerref01.World).Weight
 (*sandreckonerref01.World).Height
 (*sandreckonerref01.World).Allowed
 the bytes of a number's parts, one after another: plain
 sandreckonerref01.place
 sandreckonerref01.two
-/
import Derived.Test.YtgchfbfgjanaiaaB03
import Derived.Test.YtgchfbfgjanaiaaB04
import Derived.Test.YtgchfbfgjanaiaaA29
import Derived.Deep.LoopGhost
import Derived.Deep.DeepCutAuto
import Derived.Deep.CutBlock
import Derived.Deep.CutRange
import Derived.BigRegion
import Derived.Test.YtgchfbfgjanaiaaB01
import Derived.Test.YtgchfbfgjanaiaaA27
import Derived.StillTailTactics
import Derived.Test.YtgchfbfgjanaiaaA31
import Derived.Test.YtgchfbfgjanaiaaA08
set_option linter.unusedSimpArgs false
set_option linter.unusedVariables false
namespace Go.Proofs.Ytgchfbfgjanaiaa
open Go.RowKit Sr
def TabB (W : World) (q n : Nat) (f : Nat → Bool) : Prop := ∃ cs : Array Value, W.heap[q]? = some (.cells cs 4 (0, 0)) ∧ cs.size = n ∧ ∀ j, j < n → cs[j]? = some (.bool (f j))
theorem TabB.cell {W : World} {q n : Nat} {f : Nat → Bool} (h : TabB W q n f) {j : Nat} (hj : j < n) : W.cell? ⟨q, j, none⟩ = some (.bool (f j)) := by
 obtain ⟨cs, h1, h2, h3⟩ := h
 rw [cell_of_blk h1]; exact h3 j hj
theorem TabB.free {W : World} {q n : Nat} {f : Nat → Bool} (h : TabB W q n f) (j : Nat) : W.frozen? ⟨q, j, none⟩ = false := by
 obtain ⟨cs, h1, -⟩ := h
 exact frozen_of_blk h1 j
theorem TabB.mark {W : World} {q n : Nat} {f : Nat → Bool} (h : TabB W q n f) {r : Nat} : TabB (W.setCell ⟨q, r, none⟩ (.bool true)) q n (fun j => f j || decide (j = r)) := by
 obtain ⟨cs, h1, h2, h3⟩ := h
 refine ⟨cs.setIfInBounds r (.bool true), blk_setCell h1 r _, by simpa using h2, fun j hj => ?_⟩
 rw [Array.getElem?_setIfInBounds]
 by_cases e : j = r
 ·subst e; rw [if_pos rfl, if_pos (by omega)]; simp
 ·rw [if_neg (fun h => e h.symm), h3 j hj]; simp [e]
theorem TabB.ext {M : Nat → Prop} {W W' : World} {q n : Nat} {f : Nat → Bool} (h : TabB W q n f) (hx : Ext M W W') (hM : ¬ M q) : TabB W' q n f := by
 obtain ⟨cs, h1, h2⟩ := h
 exact ⟨cs, hx.get h1 hM, h2⟩
def irow (l : List Nat) : List Value := l.map fun n : Nat => Value.int .i64 (n : Int)
theorem irow_get {l : List Nat} {k n : Nat} (h : l[k]? = some n) : (irow l)[k]? = some (.int .i64 (n : Int)) := by
 unfold irow; rw [List.getElem?_map, h]; rfl
theorem irow_length (l : List Nat) : (irow l).length = l.length := by simp [irow]
def Rise (g : Nat → Int) (L : List Nat) (s : Nat) : Prop := (L.take s).Pairwise fun a b => g a < g b
def Down (g : Nat → Int) (L : List Nat) (s j : Nat) : Prop :=
 ∃ P m Q R, L = P ++ m :: (Q ++ R) ∧ P.length = j ∧ P.length + Q.length = s ∧ ((P ++ Q).Pairwise fun a b => g a < g b) ∧ ∀ q ∈ Q, g m < g q
theorem Rise.one (g : Nat → Int) (L : List Nat) : Rise g L 1 := by
 unfold Rise
 cases L with
 | nil => simp
 | cons a L => simp
theorem Rise.down {g : Nat → Int} {L : List Nat} {s : Nat} (h : Rise g L s) (hs : s < L.length) : Down g L s s := by
 refine ⟨L.take s, L[s], [], L.drop (s + 1), ?_, by simp; omega, by simp; omega, by rw [List.append_nil]; exact h, by simp⟩
 simp
theorem Rise.all {g : Nat → Int} {L : List Nat} {s : Nat} (h : Rise g L s) (hs : L.length ≤ s) : L.Pairwise fun a b => g a < g b := by
 unfold Rise at h
 rwa [List.take_of_length_le hs] at h
theorem snoc_cases (P : List Nat) : P = [] ∨ ∃ P' p, P = P' ++ [p] := by
 rcases List.eq_nil_or_concat P with h | ⟨P', p, h⟩
 ·exact .inl h
 ·exact .inr ⟨P', p, by rw [h]; simp⟩
theorem Down.stop {g : Nat → Int} {L : List Nat} {s j : Nat} (h : Down g L s j) (hd : ∀ a b, a < b → b < L.length → ∀ y z, L[a]? = some y → L[b]? = some z → g y ≠ g z) (hj : ∀ k y z, j = k + 1 → L[k]? = some y → L[j]? = some z → ¬ g z < g y) : Rise g L (s + 1) := by
 obtain ⟨P, m, Q, R, rfl, h1, h2, h3, h4⟩ := h
 unfold Rise
 have ht : (P ++ m :: (Q ++ R)).take (s + 1) = P ++ m :: Q := by
  have e : P ++ m :: (Q ++ R) = (P ++ m :: Q) ++ R := by simp
  rw [e, List.take_append_of_le_length (by simp; omega), List.take_of_length_le (by simp; omega)]
 rw [ht]
 rw [List.pairwise_append] at h3
 obtain ⟨hp, hq, hpq⟩ := h3
 have hpm : ∀ p ∈ P, g p < g m := by
  rcases snoc_cases P with rfl | ⟨P', p, rfl⟩
  ·simp
  ·have e1 : (P' ++ [p] ++ m :: (Q ++ R))[P'.length]? = some p := by simp
   have e2 : (P' ++ [p] ++ m :: (Q ++ R))[j]? = some m := by
    rw [← h1, List.getElem?_append_right (Nat.le_refl _)]; simp
   have hj2 : j = P'.length + 1 := by rw [← h1]; simp
   have k1 := hj _ _ _ hj2 e1 e2
   have k2 := hd P'.length j (by omega) (by rw [← h1]; simp) _ _ e1 e2
   have hlt : g p < g m := by omega
   intro p' hp'
   rw [List.mem_append] at hp'
   rw [List.pairwise_append] at hp
   rcases hp' with hp' | hp'
   ·have := hp.2.2 p' hp' p (by simp); omega
   ·simp at hp'; subst hp'; exact hlt
 rw [List.pairwise_append, List.pairwise_cons]
 refine ⟨hp, ⟨h4, hq⟩, fun a ha b hb => ?_⟩
 rcases List.mem_cons.1 hb with rfl | hb
 ·exact hpm a ha
 ·exact hpq a ha b hb
theorem Down.swap {g : Nat → Int} {L : List Nat} {s k : Nat} {y z : Nat} (h : Down g L s (k + 1)) (hy : L[k]? = some y) (hz : L[k + 1]? = some z) (hlt : g z < g y) : Down g ((L.set k z).set (k + 1) y) s k ∧ ((L.set k z).set (k + 1) y).Perm L := by
 obtain ⟨P, m, Q, R, rfl, h1, h2, h3, h4⟩ := h
 rcases snoc_cases P with rfl | ⟨P', p, rfl⟩
 ·simp at h1
 ·have hk : k = P'.length := by simp at h1; omega
  subst hk
  have e1 : (P' ++ [p] ++ m :: (Q ++ R))[P'.length]? = some p := by simp
  have e2 : (P' ++ [p] ++ m :: (Q ++ R))[P'.length + 1]? = some m := by
   rw [List.getElem?_append_right (by simp)]; simp
  rw [e1] at hy; rw [e2] at hz
  obtain rfl := Option.some.inj hy
  obtain rfl := Option.some.inj hz
  have hset : ((P' ++ [p] ++ m :: (Q ++ R)).set P'.length m).set (P'.length + 1) p = P' ++ m :: ((p :: Q) ++ R) := by
   simp [List.set_append]
  rw [hset]
  rw [List.pairwise_append] at h3
  obtain ⟨hp, hq, hpq⟩ := h3
  rw [List.pairwise_append] at hp
  refine ⟨⟨P', m, p :: Q, R, rfl, rfl, by simp at h2 ⊢; omega, ?_, ?_⟩, ?_⟩
  ·rw [List.pairwise_append, List.pairwise_cons]
   refine ⟨hp.1, ⟨fun b hb => hpq p (by simp) b hb, hq⟩, fun a ha b hb => ?_⟩
   rcases List.mem_cons.1 hb with rfl | hb
   ·exact hp.2.2 a ha b (by simp)
   ·exact hpq a (by simp [ha]) b hb
  ·intro q hq'
   rcases List.mem_cons.1 hq' with rfl | hq'
   ·exact hlt
   ·exact h4 q hq'
  ·rw [List.append_assoc]
   exact List.Perm.append_left _ (List.Perm.swap _ _ _)
theorem places_apart {vs : List Int} (hcl : Cl vs) {L : List Nat} (hn : L.Nodup) (hL : ∀ j ∈ L, j < vs.length) : ∀ a b, a < b → b < L.length → ∀ y z, L[a]? = some y → L[b]? = some z → vs.getD y 0 ≠ vs.getD z 0 := by
 intro a b hab hb y z hy hz e
 have h1 : vs[y]? = some (vs.getD y 0) := by
  rw [List.getD_eq_getElem?_getD, List.getElem?_eq_getElem (hL y (List.mem_of_getElem? hy))]; rfl
 have h2 : vs[z]? = some (vs.getD z 0) := by
  rw [List.getD_eq_getElem?_getD, List.getElem?_eq_getElem (hL z (List.mem_of_getElem? hz))]; rfl
 rw [← e] at h2
 have h3 := same_place hcl h1 h2
 subst h3
 obtain ⟨ha', hy'⟩ := List.getElem?_eq_some_iff.1 hy
 obtain ⟨hb', hz'⟩ := List.getElem?_eq_some_iff.1 hz
 exact List.pairwise_iff_getElem.1 hn a b ha' hb' hab (hy'.trans hz'.symm)
theorem irow_snoc (l : List Nat) (k : Nat) : irow (l ++ [k]) = irow l ++ [.int .i64 (k : Int)] := by simp [irow]
theorem irow_set (l : List Nat) (k z : Nat) : irow (l.set k z) = (irow l).set k (.int .i64 (z : Int)) := by unfold irow; rw [List.map_set]
set_option maxRecDepth 100000 in
set_option maxHeartbeats 4000000 in
theorem rParts_any {U : List Int} {w : World} {b : RB} {vs : List Int} {i : Nat} {x : Int} (h : RInv w b vs U) (hi : vs[i]? = some x) :
  Calls Try.prog 74 #[.pointer (some ⟨b.p, 0, none⟩), .int .i64 (i : Int)] w fun e w' => ∃ a c, e = .returned (.slice a (weight x) c) ∧
   w'.ownsRow w.heap.size 3 1 (.slice a (weight x) c) (weight x) (irow (((plist x).map fun e : Nat => vs.idxOf (e : Int)) ++ [i])) ∧ Below w.heap.size w w' := by
 have hlen := h.length
 unfold roomW at hlen
 have hil : i < vs.length := (List.getElem?_eq_some_iff.1 hi).1
 have hw1 : wrap64 ((i : Int) + 1) = (i : Int) + 1 := by unfold wrap64; omega
 have hmk : (Instr.makeSlice 141 (.int .i64 ((i : Int) + 1)) (.int .i64 ((i : Int) + 1))).run Try.prog w = .ok (.slice (some ⟨w.heap.size, 0, none⟩) (i + 1) (i + 1)) (w.alloc (.cells (madeCells #[.bool false] (i + 1)) 4)) := by
  have := run_mk el_bool (i + 1) (by omega) w
  push_cast at this
  simpa [Value.cells] using this
 obtain ⟨W0, hW0⟩ : ∃ W0, W0 = w.alloc (.cells (madeCells #[.bool false] (i + 1)) 4) := ⟨_, rfl⟩
 have hb0 : Below w.heap.size w W0 := by rw [hW0]; exact (Below.refl _ _).alloc (Nat.le_refl _) _
 have ht0 : TabB W0 w.heap.size (i + 1) (fun _ => false) := by
  rw [hW0]
  refine ⟨_, blk_alloc _ _, by simp [size_madeCells], fun j hj => ?_⟩
  have e : (madeCells #[Value.bool false] (i + 1))[j]? = (madeCells #[Value.bool false] (i + 1)).toList[j]? := by simp
  rw [e, toList_madeCells_one, List.getElem?_replicate, if_pos hj]
 have d0 := ht0.cell (j := i) (by omega)
 have d1 := ht0.free i
 have hii : (i : Int) < (i : Int) + 1 := by omega
 have H := Sealed.mk (And.intro h (And.intro hi (And.intro hb0 ht0))); clear h hi hb0 ht0
 go_enter Try.func74, Try.ntmps74
 go_upto_region 2 with fail
 rw [← hW0]
 clear hmk hW0
 go_upto_block 0 with fail
 obtain ⟨W1, hW1⟩ : ∃ W1, W1 = W0.setCell ⟨w.heap.size, i, none⟩ (.bool true) := ⟨_, rfl⟩
 have hb1 : Below w.heap.size w W1 := by rw [hW1]; exact H.out.2.2.1.setCell (Nat.le_refl _) _
 have ht1 : TabB W1 w.heap.size (i + 1) (fun j => decide (j = i)) := by rw [hW1]; simpa using H.out.2.2.2.mark (r := i)
 have H1 := Sealed.mk (And.intro hb1 ht1)
 rw [← hW1]
 clear hW1 hb1 ht1 d0 d1
 go_cut [6, 7] from 19 to 53 (fun _ _ wx => ∃ f : Nat → Bool, (∀ j, j ≤ i → (f j = true ↔ PM vs i x j)) ∧ TabB wx w.heap.size (i + 1) f ∧ Below w.heap.size w wx)
 case first =>
  go_wp2_with fail
  go_loopg [6, 7] (i + 1) (fun jj zv _ W => ∃ (s : Nat) (z : Int) (f : Nat → Bool), s = jj ∧ s ≤ i + 1 ∧ zv = .int .i64 z ∧ Sealed (z = (s : Int) - 1 ∧ (∀ j, j ≤ i → (f j = true ↔ SM vs i x s j)) ∧ TabB W w.heap.size (i + 1) f ∧ Below w.heap.size w W))
  case atStart => exact ⟨i + 1, (i : Int), _, rfl, Nat.le_refl _, rfl, ⟨by omega, fun j _ => by rw [sm_top]; simp, H1.out.2, H1.out.1⟩⟩
  case round =>
   obtain ⟨s, z, f, rfl, hs, rfl, HR⟩ := hrel
   rcases s with _ | r
   ·have hz : z = -1 := by have := HR.out.1; omega
    have bz : decide (0 ≤ z) = false := decide_eq_false (by omega)
    have hz2 : ¬ 0 ≤ z := by omega
    clear hz
    go_wp2_with fail
    go_meet
    case rel => exact ⟨f, fun j hj => by rw [HR.out.2.1 j hj]; exact sm_iff H.out.1.cl H.out.2.1 (by omega), HR.out.2.2.1, HR.out.2.2.2⟩
   ·obtain rfl : z = (r : Int) := by have := HR.out.1; omega
    obtain ⟨y, hy⟩ : ∃ y, vs[r]? = some y := ⟨_, List.getElem?_eq_getElem (by omega)⟩
    have hri : (r : Int) < (i : Int) + 1 := by omega
    have hrl : (r : Int) < (vs.length : Int) := by omega
    have hr0 : (0 : Int) ≤ (r : Int) := by omega
    have hrw : wrap64 ((r : Int) - 1) = (r : Int) - 1 := by unfold wrap64; omega
    obtain ⟨n, hn⟩ : ∃ n, n = (enc vs y).length := ⟨_, rfl⟩
    have HY := Sealed.mk (And.intro hy hn); clear hy hn
    go_wp2_with fail
    go_loopg [7] n (fun jj kv W => ∃ (k : Nat) (f : Nat → Bool), jj = n - k ∧ k ≤ n ∧ kv = .int .i64 (k : Int) ∧ Sealed ((∀ j, j ≤ i → (f j = true ↔ SM vs i x (r + 1) j ∨ (PM vs i x r ∧ ∃ k' e, k' < k ∧ (exps y)[k']? = some e ∧ vs[j]? = some (e : Int)))) ∧ TabB W w.heap.size (i + 1) f ∧ Below w.heap.size w W))
    case atStart => exact ⟨0, f, rfl, Nat.zero_le _, rfl, ⟨fun j hj => by rw [HR.out.2.1 j hj]; simp, HR.out.2.2.1, HR.out.2.2.2⟩⟩
    case round =>
     obtain ⟨k, f, rfl, hk, rfl, HK⟩ := hrel
     obtain ⟨cap, a2, c2, f0, hcap, -, f1, ht, -⟩ := (H.out.1.below HK.out.2.2).form HY.out.1
     rw [← HY.out.2] at f1
     have q1 := HK.out.2.1.cell (j := r) (by omega)
     have hfr : f r = true ↔ PM vs i x r := by
      rw [HK.out.1 r (by omega)]
      constructor
      ·rintro (h | ⟨h, _⟩)
       ·exact sm_pm H.out.1.cl H.out.2.1 h
       ·exact h
      ·intro h; exact .inl (sm_of H.out.1.cl H.out.2.1 (Nat.le_refl _) h)
     obtain ⟨fr, hfr0⟩ : ∃ fr, fr = f r := ⟨_, rfl⟩
     rw [← hfr0] at q1 hfr
     have HFR := Sealed.mk hfr; clear hfr hfr0
     rcases fr with _ | _
     ·go_wp2_with fail
      go_roundg r
      case measure => omega
      case rel => exact ⟨r, _, f, rfl, by omega, rfl, ⟨rfl, fun j hj => by
       rw [HK.out.1 j hj, sm_step (s := r) (i := i) (by omega)]
       have hnp : ¬ PM vs i x r := fun h => by have := HFR.out.2 h; cases this
       simp [hnp], HK.out.2.1, HK.out.2.2⟩⟩
     ·have hpm := HFR.out.1 rfl
      by_cases hkn : k < n
      ·have hkn' : (k : Int) < (n : Int) := by omega
       obtain ⟨⟨m, e⟩, hte⟩ : ∃ t, (form y)[k]? = some t := ⟨_, List.getElem?_eq_getElem (by have := HY.out.2; simp [enc] at this; omega)⟩
       have hek : (exps y)[k]? = some e := by unfold exps; rw [List.getElem?_map, hte]; rfl
       obtain ⟨p, hp, hvp⟩ := H.out.1.cl.ahead r y HY.out.1 _ (List.mem_of_getElem? hte)
       have hix : vs.idxOf (e : Int) = p := idxOf_of H.out.1.cl.nodup hvp
       obtain ⟨-, hn100, -, hcl⟩ := ht.cells
       rw [← HY.out.2] at hn100
       have hk1w : wrap64 ((k : Int) + 1) = (k : Int) + 1 := by unfold wrap64; omega
       obtain ⟨bb, oo, rfl, -, g1⟩ := hcl k (m, p) (by simp [enc, hte, hix])
       dsimp only at g1
       have hpi : (p : Int) < (i : Int) + 1 := by omega
       have hfz := HK.out.2.1.free p
       have q2 := HK.out.2.1.cell (j := p) (by omega)
       have HP := Sealed.mk (And.intro hek (And.intro hvp (And.intro hpm hp)))
       clear hek hvp hix hte hcl ht hpm
       go_wp2_with fail
       go_roundg (n - (k + 1))
       case measure => omega
       case rel =>
        refine ⟨k + 1, _, rfl, by omega, by push_cast; rfl, ⟨fun j hj => ?_, HK.out.2.1.mark (r := p), HK.out.2.2.setCell (Nat.le_refl _) _⟩⟩
        rw [Bool.or_eq_true, HK.out.1 j hj, decide_eq_true_eq]
        constructor
        ·rintro ((h | ⟨h1, k', e', h2, h3, h4⟩) | rfl)
         ·exact .inl h
         ·exact .inr ⟨h1, k', e', by omega, h3, h4⟩
         ·exact .inr ⟨HP.out.2.2.1, k, e, by omega, HP.out.1, HP.out.2.1⟩
        ·rintro (h | ⟨h1, k', e', h2, h3, h4⟩)
         ·exact .inl (.inl h)
         ·by_cases hkk : k' = k
          ·subst hkk
           rw [HP.out.1] at h3
           obtain rfl := Option.some.inj h3
           exact .inr (same_place H.out.1.cl h4 HP.out.2.1)
          ·exact .inl (.inr ⟨h1, k', e', by omega, h3, h4⟩)
      ·obtain rfl : k = n := by omega
       have HPM := Sealed.mk hpm; clear hpm
       go_wp2_with fail
       go_roundg r
       case measure => omega
       case rel => exact ⟨r, _, f, rfl, by omega, rfl, ⟨rfl, fun j hj => by
        rw [HK.out.1 j hj, sm_step (s := r) (i := i) (by omega)]
        refine or_congr Iff.rfl (and_congr Iff.rfl ?_)
        constructor
        ·rintro ⟨k', e', h2, h3, h4⟩
         exact ⟨y, e', HY.out.1, List.mem_of_getElem? h3, h4⟩
        ·rintro ⟨y', e', h1, h2, h3⟩
         rw [HY.out.1] at h1
         obtain rfl := Option.some.inj h1
         obtain ⟨k', hk'⟩ := List.getElem?_of_mem h2
         have := (List.getElem?_eq_some_iff.1 hk').1
         exact ⟨k', e', by have := HY.out.2; simp [enc, exps] at *; omega, hk', h3⟩, HK.out.2.1, HK.out.2.2⟩⟩
 case rest =>
  obtain ⟨f, hf, htf, hbf⟩ := hcut
  obtain ⟨W2, hW2⟩ : ∃ W2, W2 = wc := ⟨_, rfl⟩
  rw [← hW2] at htf hbf ⊢
  clear hW2 H1
  have HT := Sealed.mk (And.intro hf (And.intro htf hbf)); clear hf htf hbf
  have hs2 : w.heap.size + 1 ≤ W2.heap.size := by
   obtain ⟨cs, h1, -⟩ := HT.out.2.1
   exact lt_of_blk h1
  obtain ⟨B, hB⟩ : ∃ B, B = w.heap.size + 1 := ⟨_, rfl⟩
  rw [← hB] at hs2
  have hro : (W2.alloc (.cells #[] 3)).ownsRow B 3 1 (.slice (some ⟨W2.heap.size, 0, none⟩) 0 0) 0 (irow []) := own_empty hs2 _ rfl
  obtain ⟨q0, hq0⟩ : ∃ q, q = W2.heap.size := ⟨_, rfl⟩
  have hrt : TabB (W2.alloc (.cells #[] 3)) w.heap.size (i + 1) f := by
   obtain ⟨cs, h1, h2⟩ := HT.out.2.1
   exact ⟨cs, blk_alloc_old h1 _, h2⟩
  have hrb : Below w.heap.size w (W2.alloc (.cells #[] 3)) := HT.out.2.2.alloc (by omega) _
  rw [← hq0] at hro
  obtain ⟨W3, hW3⟩ : ∃ W3, W3 = W2.alloc (.cells #[] 3) := ⟨_, rfl⟩
  rw [← hW3] at hro hrt hrb
  have H3 := Sealed.mk (And.intro hro (And.intro hrt (And.intro hrb hB))); clear hro hrt hrb hB
  go_upto_block 4 with fail
  rw [← hq0, ← hW3]
  clear hq0 hW3
  go_wp2_with fail
  go_loopg [8, 9] i (fun jj ov kv W => ∃ (k n : Nat) (oa : Option Addr) (oc : Nat), jj = i - k ∧ k ≤ i ∧ kv = .int .i64 (k : Int) ∧ ov = .slice oa n oc ∧ Sealed (n = ((List.range k).filter f).length ∧ W.ownsRow B 3 1 (.slice oa n oc) n (irow ((List.range k).filter f)) ∧ TabB W w.heap.size (i + 1) f ∧ Below w.heap.size w W))
  case atStart => exact ⟨0, 0, _, _, rfl, Nat.zero_le _, rfl, rfl, ⟨rfl, H3.out.1, H3.out.2.1, H3.out.2.2.1⟩⟩
  case round =>
   obtain ⟨k, n, oa, oc, rfl, hk, rfl, rfl, HK⟩ := hrel
   have hn1 : n ≤ k := by rw [HK.out.1]; have := List.length_filter_le f (List.range k); simpa using this
   have hB2 : B ≤ wr.heap.size := by
    obtain ⟨cs, h1, -⟩ := HK.out.2.2.1
    have := lt_of_blk h1
    have := H3.out.2.2.2
    omega
   by_cases hki : k < i
   ·have hki' : (k : Int) < (i : Int) := by omega
    have hki1 : (k : Int) < (i : Int) + 1 := by omega
    have hkw : wrap64 ((k : Int) + 1) = (k : Int) + 1 := by unfold wrap64; omega
    have q1 := HK.out.2.2.1.cell (j := k) (by omega)
    obtain ⟨fk, hfk⟩ : ∃ b, b = f k := ⟨_, rfl⟩
    rw [← hfk] at q1
    have HF := Sealed.mk hfk; clear hfk
    rcases fk with _ | _
    ·go_wp2_with fail
     go_roundg (i - (k + 1))
     case measure => omega
     case rel => exact ⟨k + 1, n, oa, oc, rfl, by omega, by push_cast; rfl, rfl, by
      have e : (List.range (k + 1)).filter f = (List.range k).filter f := by rw [List.range_succ, List.filter_append]; simp [HF.out.symm]
      rw [e]; exact HK⟩
    ·go_wp2_with (at_builtin; go_must (refine ap_litp (m := 1) el_int (.tmp 64) (.tmp 66) rfl rfl rfl HK.out.2.1 rfl (by simp) rfl (by decide) ?h1 ?h2 ?h3 ?h4))
     case h1 => simp [Value.oneCell']
     case h2 => omega
     case h3 => exact hB2
     case h4 =>
      intro g2 c2 w2 ho2 hg2 hn2
      have hb2 : Below w.heap.size w w2 := HK.out.2.2.2.grown hg2 (by have := H3.out.2.2.2; omega) fun q hq => by have := own_ge HK.out.2.1 q hq; have := H3.out.2.2.2; omega
      have ht2 : TabB w2 w.heap.size (i + 1) f := by
       obtain ⟨cs, h1, h2⟩ := HK.out.2.2.1
       exact ⟨cs, (hg2.block _ (lt_of_blk h1) (fun e => by have := own_ge HK.out.2.1 _ e.symm; have := H3.out.2.2.2; omega)).trans h1, h2⟩
      have A2 := Sealed.mk (And.intro ho2 (And.intro ht2 hb2)); clear ho2 ht2 hb2 hg2 hn2
      go_wp2_with fail
      go_roundg (i - (k + 1))
      case measure => omega
      case rel => exact ⟨k + 1, n + 1, some ⟨g2, 0, none⟩, c2, rfl, by omega, by push_cast; rfl, rfl, by
       have e : (List.range (k + 1)).filter f = (List.range k).filter f ++ [k] := by rw [List.range_succ, List.filter_append]; simp [HF.out.symm]
       rw [e, irow_snoc]
       exact ⟨by rw [List.length_append, ← HK.out.1]; rfl, A2.out.1, A2.out.2.1, A2.out.2.2⟩⟩
   ·obtain rfl : k = i := by omega
    obtain ⟨L0, hL0⟩ : ∃ L, L = (List.range k).filter f := ⟨_, rfl⟩
    have hmem : ∀ j, j ∈ L0 ↔ j < k ∧ PM vs k x j := fun j => by
     rw [hL0, List.mem_filter, List.mem_range]
     exact and_congr_right fun h => HT.out.1 j (by omega)
    have hnd : L0.Nodup := by rw [hL0]; exact List.nodup_range.filter _
    have hnL : n = L0.length := by rw [hL0]; exact HK.out.1
    have hro : wr.ownsRow B 3 1 (.slice oa n oc) n (irow L0) := by rw [hL0]; exact HK.out.2.1
    have HL := Sealed.mk (And.intro hmem (And.intro hnd (And.intro hnL (And.intro hro HK.out.2.2.2)))); clear hmem hnd hnL hro HK hL0 HT
    go_upto_block 6 with fail
    go_wp2_with fail
    obtain ⟨g, hg⟩ : ∃ g : Nat → Int, g = fun a => vs.getD a 0 := ⟨_, rfl⟩
    have hn9 : n ≤ 1000000000 := by omega
    have HG := Sealed.mk hg; clear hg
    go_loopg [10, 11] n (fun jj sv _ W => ∃ (s : Nat) (L : List Nat), jj = n + 1 - s ∧ 1 ≤ s ∧ s ≤ n + 1 ∧ sv = .int .i64 (s : Int) ∧ Sealed (L.Perm L0 ∧ Rise g L s ∧ W.ownsRow B 3 1 (.slice oa n oc) n (irow L) ∧ Below w.heap.size w W ∧ B ≤ W.heap.size))
    case atStart => exact ⟨1, L0, by omega, Nat.le_refl _, by omega, rfl, ⟨.refl _, Rise.one _ _, HL.out.2.2.2.1, HL.out.2.2.2.2, hB2⟩⟩
    case round =>
     obtain ⟨s, L, rfl, hs1, hs, rfl, HS⟩ := hrel
     by_cases hsn : s < n
     ·have hsn' : (s : Int) < (n : Int) := by omega
      have hsw : wrap64 ((s : Int) + 1) = (s : Int) + 1 := by unfold wrap64; omega
      have hLn : L.length = n := by rw [HS.out.1.length_eq]; exact HL.out.2.2.1.symm
      obtain ⟨gq, cq, e1⟩ := own_form HS.out.2.2.1 (by omega)
      obtain ⟨rfl, _, rfl⟩ := Value.slice.inj e1
      clear e1
      go_wp2_with fail
      go_loopg [11] s (fun jj jv W => ∃ (j : Nat) (L : List Nat), j = jj ∧ j ≤ s ∧ jv = .int .i64 (j : Int) ∧ Sealed (L.Perm L0 ∧ Down g L s j ∧ W.ownsRow B 3 1 (.slice (some ⟨gq, 0, none⟩) n oc) n (irow L) ∧ Below w.heap.size w W ∧ B ≤ W.heap.size))
      case atStart => exact ⟨s, L, rfl, Nat.le_refl _, rfl, ⟨HS.out.1, HS.out.2.1.down (by omega), HS.out.2.2.1, HS.out.2.2.2⟩⟩
      case round =>
       obtain ⟨j, L2, rfl, hj, rfl, HJ⟩ := hrel
       clear HS hLn
       have hLn : L2.length = n := by rw [HJ.out.1.length_eq]; exact HL.out.2.2.1.symm
       have hap : ∀ a b, a < b → b < L2.length → ∀ y z, L2[a]? = some y → L2[b]? = some z → g y ≠ g z := by
        rw [HG.out]
        refine places_apart H.out.1.cl (HJ.out.1.nodup_iff.2 HL.out.2.1) fun j hj => ?_
        have := ((HL.out.1 j).1 (HJ.out.1.mem_iff.1 hj)).1
        omega
       have HA := Sealed.mk hap; clear hap
       rcases Nat.eq_zero_or_pos j with hj0 | hj0
       ·subst hj0
        go_wp2_with fail
        go_quiet (fail)
        go_wp2_with fail
        go_roundg (n + 1 - (s + 1))
        case measure => omega
        case rel => exact ⟨s + 1, L2, rfl, by omega, by omega, by push_cast; rfl, ⟨HJ.out.1, HJ.out.2.1.stop HA.out (fun k y z h => by omega), HJ.out.2.2.1, HJ.out.2.2.2.1.trans ⟨rfl, rfl, rfl, Nat.le_refl _, fun _ _ => rfl⟩, HJ.out.2.2.2.2⟩⟩
       ·obtain ⟨r, hr⟩ : ∃ r, j = r + 1 := ⟨j - 1, by omega⟩
        obtain ⟨y, hy⟩ : ∃ y, L2[r]? = some y := ⟨_, List.getElem?_eq_getElem (by omega)⟩
        obtain ⟨z, hz⟩ : ∃ z, L2[j]? = some z := ⟨_, List.getElem?_eq_getElem (by omega)⟩
        have hyk := ((HL.out.1 y).1 (HJ.out.1.mem_iff.1 (List.mem_of_getElem? hy))).1
        have hzk := ((HL.out.1 z).1 (HJ.out.1.mem_iff.1 (List.mem_of_getElem? hz))).1
        have hvy : vs[y]? = some (g y) := by rw [HG.out]; simp only; rw [List.getD_eq_getElem?_getD, List.getElem?_eq_getElem (by omega)]; rfl
        have hvz : vs[z]? = some (g z) := by rw [HG.out]; simp only; rw [List.getD_eq_getElem?_getD, List.getElem?_eq_getElem (by omega)]; rfl
        have hdr : ∀ q, Below w.heap.size w (wr.drewN q) := fun q => HJ.out.2.2.2.1.trans ⟨rfl, rfl, rfl, Nat.le_refl _, fun _ _ => rfl⟩
        have hcall := fun q : Nat => rCmp_at hvy hvz (H.out.1.below (hdr q))
        obtain ⟨cv, hcv⟩ : ∃ c, c = sg (g y - g z) := ⟨_, rfl⟩
        rw [← hcv] at hcall
        have hcg : 0 < cv ↔ g z < g y := by clear hsw hlen; rw [hcv]; unfold sg; split <;> (try split) <;> omega
        have c1 := own_cell HJ.out.2.2.1 (b := gq) rfl (irow_get hy)
        have c2 := own_cell HJ.out.2.2.1 (b := gq) rfl (irow_get hz)
        have f1 := own_free HJ.out.2.2.1 (b := gq) rfl r
        have f2 := own_free HJ.out.2.2.1 (b := gq) rfl j
        have hjn : (j : Int) < (n : Int) := by omega
        have hrn : (r : Int) < (n : Int) := by omega
        have hjp : (0 : Int) < (j : Int) := by omega
        have hjp2 : 0 < j := hj0
        have hne : r ≠ j := by omega
        have hw3 : (j : Int) - 1 = (r : Int) := by omega
        have hz1 : (0 : Int) ≤ (r : Int) ∧ (r : Int) ≤ 1000000000 := by omega
        have hw4 : wrap64 (r : Int) = (r : Int) := small_w64 hz1.1 hz1.2
        have hw5 : IntKind.i64.wrap (r : Int) = (r : Int) := small_i64 hz1.1 hz1.2
        have hw1 : wrap64 ((j : Int) - 1) = (r : Int) := (congrArg wrap64 hw3).trans hw4
        have hw2 : IntKind.i64.wrap ((j : Int) - 1) = (r : Int) := (congrArg IntKind.i64.wrap hw3).trans hw5
        have hz2 : (0 : Int) ≤ (r : Int) := hz1.1
        have HC := Sealed.mk (And.intro hcall (And.intro hcv (And.intro hr (And.intro hy hz))))
        clear hcall hcv hr hy hz hvy hvz hyk hzk hj0 hdr
        by_cases hc : 0 < cv
        ·have bC : decide (0 < cv) = true := decide_eq_true hc
         have HB := Sealed.mk (hcg.1 hc); clear hcg
         go_wp2_with fail
         go_quiet (first | (go_at_call 86; exact Calls.quiet_of (HC.out.1 _)))
         go_wp2_with fail
         go_region
         go_wp2_with fail
         clear hw1 hw2 hw3 hw4 hw5 hz1
         go_roundg r
         case measure => have := HC.out.2.2.1; omega
         case rel =>
          have hsw := Down.swap (k := r) (by rw [← HC.out.2.2.1]; exact HJ.out.2.1) HC.out.2.2.2.1 (by rw [← HC.out.2.2.1]; exact HC.out.2.2.2.2) HB.out
          rw [← HC.out.2.2.1] at hsw
          refine ⟨r, _, rfl, by have := HC.out.2.2.1; omega, by simp, ⟨hsw.2.trans HJ.out.1, hsw.1, ?_, ?_, by simpa using HJ.out.2.2.2.2⟩⟩
          ·rw [irow_set, irow_set]
           exact own_set (own_set HJ.out.2.2.1 rfl (by omega) _) rfl (by omega) _
          ·have hq := own_ge HJ.out.2.2.1 gq rfl
           have hB := H3.out.2.2.2
           have h := ((HJ.out.2.2.2.1.setCell (p := ⟨gq, r, none⟩) (by show w.heap.size ≤ gq; omega) (.int .i64 (z : Int))).setCell (p := ⟨gq, j, none⟩) (by show w.heap.size ≤ gq; omega) (.int .i64 (y : Int)))
           exact ⟨h.os, h.tape, h.output, h.size, h.block⟩
        ·have bC : decide (0 < cv) = false := decide_eq_false hc
         have HB := Sealed.mk (fun h => hc (hcg.2 h)); clear hcg
         go_wp2_with fail
         go_quiet (first | (go_at_call 86; exact Calls.quiet_of (HC.out.1 _)))
         clear hw1 hw2 hw3 hw4 hw5 hz1
         go_wp2_with fail
         go_roundg (n + 1 - (s + 1))
         case measure => omega
         case rel => exact ⟨s + 1, L2, rfl, by omega, by omega, by push_cast; rfl, ⟨HJ.out.1, HJ.out.2.1.stop HA.out (fun k y z h1 h2 h3 => by
          have := HC.out.2.2.1
          obtain rfl : k = r := by omega
          rw [HC.out.2.2.2.1] at h2
          rw [HC.out.2.2.2.2] at h3
          obtain rfl := Option.some.inj h2
          obtain rfl := Option.some.inj h3
          exact HB.out), HJ.out.2.2.1, HJ.out.2.2.2.1.trans ⟨rfl, rfl, rfl, Nat.le_refl _, fun _ _ => rfl⟩, HJ.out.2.2.2.2⟩⟩
     ·have hfin : L = (plist x).map fun e : Nat => vs.idxOf (e : Int) := by
       have hLn : L.length = n := by rw [HS.out.1.length_eq]; exact HL.out.2.2.1.symm
       refine parts_sorted H.out.1.cl H.out.2.1 (fun j => by rw [HS.out.1.mem_iff]; exact HL.out.1 j) ?_
       have := HS.out.2.1.all (by omega)
       rw [HG.out] at this
       exact this
      go_upto_region 23 with fail
      go_wp2_with (at_builtin; go_must (refine ap_litp (m := 1) el_int (.tmp 109) (.tmp 111) rfl rfl rfl HS.out.2.2.1 rfl (by simp) rfl (by decide) ?h1 ?h2 ?h3 ?h4))
      case h1 => simp [Value.oneCell']
      case h2 => omega
      case h3 => exact HS.out.2.2.2.2
      case h4 =>
       intro g2 c2 w2 ho2 hg2 hn2
       have hb2 : Below w.heap.size w w2 := HS.out.2.2.2.1.grown hg2 HS.out.2.2.2.1.size fun q hq => by have := own_ge HS.out.2.2.1 q hq; have := H3.out.2.2.2; omega
       have hwt : n + 1 = weight x := by
        unfold weight
        rw [HL.out.2.2.1, ← HS.out.1.length_eq, hfin, List.length_map]
       rw [hwt] at ho2
       try rw [hfin] at ho2
       go_wp2_with fail
       go_ret
       rw [irow_snoc]
       exact ⟨some ⟨g2, 0, none⟩, c2, by rw [← hwt]; rfl, own_lower ho2 (by have := H3.out.2.2.2; omega), hb2⟩
end Go.Proofs.Ytgchfbfgjanaiaa

namespace Go.Proofs.Ytgchfbfgjanaiaa
open Go.RowKit Sr
set_option maxRecDepth 100000 in
theorem rWeight_any {U : List Int} {w : World} {b : RB} {vs : List Int} {i : Nat} {x : Int} (h : RInv w b vs U) (hi : vs[i]? = some x) :
  Calls Try.prog 61 #[.pointer (some ⟨b.p, 0, none⟩), .int .i64 (i : Int)] w fun e w' => e = .returned (.int .i64 (weight x : Nat)) ∧ Below w.heap.size w w' := by
 have HP := Sealed.mk (rParts_any h hi)
 clear h hi
 obtain ⟨n, hn⟩ : ∃ n, n = weight x := ⟨_, rfl⟩
 rw [← hn] at HP ⊢
 clear hn
 go_enter Try.func61, Try.ntmps61
 go_wp2_with (go_at_call 74; go_must ((with_reducible refine HP.out.mono ?_); rintro e w1 ⟨a, c, rfl, ho, hb⟩; have HO := Sealed.mk hb; clear ho hb))
 go_ret
 exact ⟨rfl, HO.out⟩
end Go.Proofs.Ytgchfbfgjanaiaa

namespace Go.Proofs.Ytgchfbfgjanaiaa
open Go.RowKit Sr
theorem height_place {vs : List Int} (hcl : Cl vs) (j : Nat) : ∀ {y : Int}, vs[j]? = some y → height y ≤ j := by
 induction j using Nat.strongRecOn with
 | _ j ih =>
   intro y hy
   rw [← hgt_exps y]
   refine hgt_le fun e he => ?_
   obtain ⟨t, ht, rfl⟩ := mem_exps.1 he
   obtain ⟨k, hk, hv⟩ := hcl.ahead j y hy t ht
   have := ih k hk hv
   omega
def TabI (W : World) (q n : Nat) (f : Nat → Nat) : Prop := ∃ cs : Array Value, W.heap[q]? = some (.cells cs 3 (0, 0)) ∧ cs.size = n ∧ ∀ j, j < n → cs[j]? = some (.int .i64 (f j : Int))
theorem TabI.cell {W : World} {q n : Nat} {f : Nat → Nat} (h : TabI W q n f) {j : Nat} (hj : j < n) : W.cell? ⟨q, j, none⟩ = some (.int .i64 (f j : Int)) := by
 obtain ⟨cs, h1, h2, h3⟩ := h
 rw [cell_of_blk h1]; exact h3 j hj
theorem TabI.free {W : World} {q n : Nat} {f : Nat → Nat} (h : TabI W q n f) (j : Nat) : W.frozen? ⟨q, j, none⟩ = false := by
 obtain ⟨cs, h1, -⟩ := h
 exact frozen_of_blk h1 j
theorem TabI.set {W : World} {q n : Nat} {f g : Nat → Nat} (h : TabI W q n f) {r : Nat} (hr : r < n) {v : Nat} (hg : ∀ j, j < n → g j = if j = r then v else f j) : TabI (W.setCell ⟨q, r, none⟩ (.int .i64 (v : Int))) q n g := by
 obtain ⟨cs, h1, h2, h3⟩ := h
 refine ⟨cs.setIfInBounds r (.int .i64 (v : Int)), blk_setCell h1 r _, by simpa using h2, fun j hj => ?_⟩
 rw [Array.getElem?_setIfInBounds, hg j hj]
 by_cases e : j = r
 ·subst e; rw [if_pos rfl, if_pos (by omega), if_pos rfl]
 ·rw [if_neg (fun h => e h.symm), if_neg e]; exact h3 j hj
theorem TabI.setv {W : World} {q n : Nat} {f g : Nat → Nat} (h : TabI W q n f) {r : Nat} (hr : r < n) {v : Nat} {u : Value} (hu : u = .int .i64 (v : Int)) (hg : ∀ j, j < n → g j = if j = r then v else f j) : TabI (W.setCell ⟨q, r, none⟩ u) q n g := by
 subst hu; exact h.set hr hg
theorem TabI.below {W W' : World} {q n : Nat} {f : Nat → Nat} (h : TabI W q n f) (hb : Below W.heap.size W W') : TabI W' q n f := by
 obtain ⟨cs, h1, h2⟩ := h
 exact ⟨cs, (hb.block _ (lt_of_blk h1)).trans h1, h2⟩
theorem TabI.same {W : World} {q n : Nat} {f g : Nat → Nat} (h : TabI W q n f) (hg : ∀ j, j < n → g j = f j) : TabI W q n g := by
 obtain ⟨cs, h1, h2, h3⟩ := h
 exact ⟨cs, h1, h2, fun j hj => by rw [hg j hj]; exact h3 j hj⟩
noncomputable def hTab (vs : List Int) (r z j : Nat) : Nat := if j < r then height (vs.getD j 0) else if j = r then z else 0
set_option maxRecDepth 100000 in
set_option maxHeartbeats 4000000 in
theorem rHeight_any {U : List Int} {w : World} {b : RB} {vs : List Int} {i : Nat} {x : Int} (h : RInv w b vs U) (hi : vs[i]? = some x) :
  Calls Try.prog 62 #[.pointer (some ⟨b.p, 0, none⟩), .int .i64 (i : Int)] w fun e w' => e = .returned (.int .i64 (height x : Nat)) ∧ Below w.heap.size w w' := by
 have hlen := h.length
 unfold roomW at hlen
 have hil : i < vs.length := (List.getElem?_eq_some_iff.1 hi).1
 have hw1 : wrap64 ((i : Int) + 1) = (i : Int) + 1 := by unfold wrap64; omega
 have hmk : (Instr.makeSlice 57 (.int .i64 ((i : Int) + 1)) (.int .i64 ((i : Int) + 1))).run Try.prog w = .ok (.slice (some ⟨w.heap.size, 0, none⟩) (i + 1) (i + 1)) (w.alloc (.cells (madeCells #[.int .i64 0] (i + 1)) 3)) := by
  have := run_mk el_int (i + 1) (by omega) w
  push_cast at this
  simpa [Value.cells] using this
 obtain ⟨W0, hW0⟩ : ∃ W0, W0 = w.alloc (.cells (madeCells #[.int .i64 0] (i + 1)) 3) := ⟨_, rfl⟩
 have hb0 : Below w.heap.size w W0 := by rw [hW0]; exact (Below.refl _ _).alloc (Nat.le_refl _) _
 have ht0 : TabI W0 w.heap.size (i + 1) (hTab vs 1 0) := by
  rw [hW0]
  refine ⟨_, blk_alloc _ _, by simp [size_madeCells], fun j hj => ?_⟩
  have e : (madeCells #[Value.int .i64 0] (i + 1))[j]? = (madeCells #[Value.int .i64 0] (i + 1)).toList[j]? := by simp
  rw [e, toList_madeCells_one, List.getElem?_replicate, if_pos hj]
  have : hTab vs 1 0 j = 0 := by
   unfold hTab
   by_cases hj0 : j < 1
   ·rw [if_pos hj0]
    have : j = 0 := by omega
    subst this
    have := h.cl.zero
    rw [List.getD_eq_getElem?_getD, this]
    show height 0 = 0
    rw [height_eq, exps_zero]; rfl
   ·rw [if_neg hj0]; split <;> rfl
  rw [this]; rfl
 have H := Sealed.mk (And.intro h (And.intro hi (And.intro hb0 ht0))); clear h hi hb0 ht0
 go_enter Try.func62, Try.ntmps62
 go_wp2_with fail
 rw [← hW0]
 clear hmk hW0
 go_loopg [6] (i + 1) (fun jj rv W => ∃ r : Nat, jj = i + 2 - r ∧ 1 ≤ r ∧ r ≤ i + 1 ∧ rv = .int .i64 (r : Int) ∧ Sealed (TabI W w.heap.size (i + 1) (hTab vs r 0) ∧ Below w.heap.size w W))
 case atStart => exact ⟨1, by omega, by omega, by omega, rfl, ⟨H.out.2.2.2, H.out.2.2.1⟩⟩
 case round =>
  obtain ⟨r, rfl, hr1, hr2, rfl, HR⟩ := hrel
  by_cases hri : r ≤ i
  ·obtain ⟨y, hy⟩ : ∃ y, vs[r]? = some y := ⟨_, List.getElem?_eq_getElem (by omega)⟩
   have hri' : (r : Int) ≤ (i : Int) := by omega
   have hrl : (r : Int) < (vs.length : Int) := by omega
   have hnx : wrap64 ((r : Int) + 1) = (r : Int) + 1 := by unfold wrap64; omega
   obtain ⟨n, hn⟩ : ∃ n, n = (enc vs y).length := ⟨_, rfl⟩
   have HY := Sealed.mk (And.intro hy hn); clear hy hn
   go_wp2_with fail
   go_loopg [7] n (fun jj kv W => ∃ k : Nat, jj = n - k ∧ k ≤ n ∧ kv = .int .i64 (k : Int) ∧ Sealed (TabI W w.heap.size (i + 1) (hTab vs r (hgt ((exps y).take k))) ∧ Below w.heap.size w W))
   case atStart => exact ⟨0, rfl, Nat.zero_le _, rfl, ⟨by simpa [hgt] using HR.out.1, HR.out.2⟩⟩
   case round =>
    obtain ⟨k, rfl, hk, rfl, HK⟩ := hrel
    obtain ⟨cap, a2, c2, f0, hcap, -, f1, ht, -⟩ := (H.out.1.below HK.out.2).form HY.out.1
    rw [← HY.out.2] at f1
    by_cases hkn : k < n
    ·have hkn' : (k : Int) < (n : Int) := by omega
     obtain ⟨⟨m, e⟩, hte⟩ : ∃ t, (form y)[k]? = some t := ⟨_, List.getElem?_eq_getElem (by have := HY.out.2; simp [enc] at this; omega)⟩
     have hek : (exps y)[k]? = some e := by unfold exps; rw [List.getElem?_map, hte]; rfl
     obtain ⟨p, hp, hvp⟩ := H.out.1.cl.ahead r y HY.out.1 _ (List.mem_of_getElem? hte)
     have hix : vs.idxOf (e : Int) = p := idxOf_of H.out.1.cl.nodup hvp
     obtain ⟨-, hn100, -, hcl⟩ := ht.cells
     rw [← HY.out.2] at hn100
     have hk1w : wrap64 ((k : Int) + 1) = (k : Int) + 1 := by unfold wrap64; omega
     obtain ⟨bb, oo, rfl, -, g1⟩ := hcl k (m, p) (by simp [enc, hte, hix])
     dsimp only at g1
     have hpe : hTab vs r (hgt ((exps y).take k)) p = height (e : Int) := by
      unfold hTab; rw [if_pos hp, List.getD_eq_getElem?_getD, hvp]; rfl
     have hre : hTab vs r (hgt ((exps y).take k)) r = hgt ((exps y).take k) := by unfold hTab; rw [if_neg (by omega), if_pos rfl]
     have q1 := HK.out.1.cell (j := r) (by omega)
     have q2 := HK.out.1.cell (j := p) (by omega)
     rw [hre] at q1
     rw [hpe] at q2
     have hhe : height (e : Int) ≤ p := height_place H.out.1.cl p hvp
     have htk : hgt ((exps y).take (k + 1)) = max (hgt ((exps y).take k)) (height (e : Int) + 1) := by rw [take_snoc hek, hgt_snoc]
     obtain ⟨h0, hh0⟩ : ∃ z, z = hgt ((exps y).take k) := ⟨_, rfl⟩
     obtain ⟨h1, hh1⟩ : ∃ z, z = height (e : Int) := ⟨_, rfl⟩
     rw [← hh0] at q1 htk
     rw [← hh1] at q2 htk hhe
     have hfz := HK.out.1.free r
     have d0 : wr.drew.cell? ⟨b.p, 0, none⟩ = some (.slice (some ⟨b.f, 0, none⟩) vs.length cap) := f0
     have d1 : wr.drew.cell? ⟨b.f, r, none⟩ = some (.slice (some ⟨bb, oo, none⟩) n c2) := f1
     have d2 : wr.drew.cell? ⟨bb, oo + k * 2 + 1, none⟩ = some (.int .i64 (p : Int)) := g1
     have d3 : wr.drew.cell? ⟨w.heap.size, r, none⟩ = some (.int .i64 (h0 : Int)) := q1
     have d4 : wr.drew.cell? ⟨w.heap.size, p, none⟩ = some (.int .i64 (h1 : Int)) := q2
     have d5 : wr.drew.frozen? ⟨w.heap.size, r, none⟩ = false := hfz
     have hpi : (p : Int) < (i : Int) + 1 := by omega
     have hri2 : (r : Int) < (i : Int) + 1 := by omega
     have hw2 : wrap64 ((h1 : Int) + 1) = (h1 : Int) + 1 := by unfold wrap64; omega
     have HT := Sealed.mk (And.intro hh0 (And.intro hh1 htk))
     clear hh0 hh1 htk hpe hre hhe hix hvp hek hte hcl ht
     go_upto_region 8 with fail
     refine wp_region_still_tail 23 (by kernel_rfl) (by kernel_rfl) ?_
     simp only [List.take_succ_cons, List.take_zero, List.drop_succ_cons, List.drop_zero]
     (repeat still_step)
     refine wpStill_nil ?_
     change wpList _ _ _ _ _ wr.drew
     go_wp2_with fail
     all_goals
      go_roundg (n - (k + 1))
      case measure => omega
      case rel =>
       refine ⟨k + 1, rfl, by omega, by push_cast; rfl, ⟨?_, ?_⟩⟩
       ·have hb : Below wr.heap.size wr wr.drew := ⟨rfl, rfl, rfl, Nat.le_refl _, fun _ _ => rfl⟩
        refine (HK.out.1.below hb).setv (r := r) (by omega) (v := max h0 (h1 + 1)) ?_ fun j hj => ?_
        ·first
          | rfl
          | (simp only [Value.int.injEq, true_and]; push_cast; (try rw [Int.max_def]); (repeat' split) <;> omega)
        ·unfold hTab
         by_cases h1 : j < r
         ·rw [if_pos h1, if_neg (by omega), if_pos h1]
         ·rw [if_neg h1, if_neg h1]
          by_cases h2 : j = r
          ·rw [if_pos h2, if_pos h2]; exact HT.out.2.2
          ·rw [if_neg h2, if_neg h2, if_neg h2]
       ·have hb : Below w.heap.size w wr.drew := HK.out.2.trans ⟨rfl, rfl, rfl, Nat.le_refl _, fun _ _ => rfl⟩
        exact hb.setCell (Nat.le_refl _) _
    ·obtain rfl : k = n := by omega
     have hkn' : ¬ (k : Int) < (k : Int) := by omega
     have hke : hgt ((exps y).take k) = height y := by
      rw [List.take_of_length_le (by have := HY.out.2; simp [enc, exps] at this ⊢; omega), hgt_exps]
     have HE := Sealed.mk hke; clear hke
     go_wp2_with fail
     go_roundg (i + 2 - (r + 1))
     case measure => omega
     case rel =>
      refine ⟨r + 1, rfl, by omega, by omega, by push_cast; rfl, ⟨?_, HK.out.2⟩⟩
      refine HK.out.1.same fun j hj => ?_
      unfold hTab
      by_cases h1 : j < r
      ·rw [if_pos h1, if_pos (by omega)]
      ·rw [if_neg h1]
       by_cases h2 : j = r
       ·subst h2
        rw [if_pos (by omega), if_pos rfl, HE.out, List.getD_eq_getElem?_getD, HY.out.1]; rfl
       ·rw [if_neg h2, if_neg (by omega)]; split <;> rfl
  ·have hri' : ¬ (r : Int) ≤ (i : Int) := by omega
   have hq := HR.out.1.cell (j := i) (by omega)
   have hhi : hTab vs r 0 i = height x := by
    unfold hTab; rw [if_pos (by omega), List.getD_eq_getElem?_getD, H.out.2.1]; rfl
   rw [hhi] at hq
   have hii : (i : Int) < (i : Int) + 1 := by omega
   obtain ⟨hx, hhx⟩ : ∃ z, z = height x := ⟨_, rfl⟩
   rw [← hhx] at hq
   have HB := Sealed.mk (And.intro hhx HR.out.2)
   clear HR hhx hhi
   go_wp2_with fail
   go_ret
   exact ⟨congrArg (fun z : Nat => Ending.returned (.int .i64 (z : Int))) HB.out.1, HB.out.2⟩
end Go.Proofs.Ytgchfbfgjanaiaa

namespace Go.Proofs.Ytgchfbfgjanaiaa
open Go.RowKit Sr
noncomputable def partsV (x : Int) : List Int := (plist x).map (fun e : Nat => (e : Int)) ++ [x]
theorem partsV_length (x : Int) : (partsV x).length = weight x := by simp [partsV, weight]
theorem partsV_mem {vs : List Int} (hcl : Cl vs) {i : Nat} {x : Int} (hi : vs[i]? = some x) {y : Int} (hy : y ∈ partsV x) : y ∈ vs := by
 unfold partsV at hy
 rcases List.mem_append.1 hy with h | h
 ·obtain ⟨e, he, rfl⟩ := List.mem_map.1 h
  obtain ⟨q, -, h2⟩ := part_place hcl (mem_plist.1 he) hi
  exact List.mem_of_getElem? h2
 ·obtain rfl := List.mem_singleton.1 h
  exact List.mem_of_getElem? hi
theorem partsV_places {vs : List Int} (hcl : Cl vs) {i : Nat} {x : Int} (hi : vs[i]? = some x) : ((plist x).map fun e : Nat => vs.idxOf (e : Int)) ++ [i] = (partsV x).map fun y => vs.idxOf y := by
 unfold partsV
 rw [List.map_append, List.map_map]
 simp only [List.map_cons, List.map_nil]
 rw [idxOf_of hcl.nodup hi]
 rfl
theorem allowed_iff {x : Int} : Allowed x ↔ (∀ y ∈ partsV x, (form y).length ≤ 300) ∧ weight x ≤ 2000 ∧ height x ≤ 100 := by
 unfold Allowed partsV
 constructor
 ·rintro ⟨h1, h2, h3, h4⟩
  refine ⟨fun y hy => ?_, h3, h4⟩
  rcases List.mem_append.1 hy with h | h
  ·obtain ⟨e, he, rfl⟩ := List.mem_map.1 h
   exact h2 e (mem_plist.1 he)
  ·obtain rfl := List.mem_singleton.1 h
   exact h1
 ·rintro ⟨h1, h3, h4⟩
  exact ⟨h1 x (by simp), fun e he => h1 e (List.mem_append.2 (.inl (List.mem_map.2 ⟨e, mem_plist.2 he, rfl⟩))), h3, h4⟩
set_option maxRecDepth 100000 in
set_option maxHeartbeats 4000000 in
theorem rAllowed_any {U : List Int} {w : World} {b : RB} {vs : List Int} {i : Nat} {x : Int} (h : RInv w b vs U) (hi : vs[i]? = some x) :
  Calls Try.prog 29 #[.pointer (some ⟨b.p, 0, none⟩), .int .i64 (i : Int)] w fun e w' => (∃ d, e = .returned (.bool d) ∧ (d = true ↔ Allowed x)) ∧ Below w.heap.size w w' := by
 have hp := rParts_any h hi
 rw [partsV_places h.cl hi] at hp
 obtain ⟨n, hn⟩ : ∃ n, n = weight x := ⟨_, rfl⟩
 rw [← hn] at hp
 have HP := Sealed.mk hp
 have H := Sealed.mk (And.intro h (And.intro hi hn))
 clear h hi hp hn
 go_enter Try.func29, Try.ntmps29
 go_upto_block 0 with (go_at_call 74; go_must ((with_reducible refine HP.out.mono ?_); rintro e w1 ⟨a, c, rfl, ho, hb⟩; have HO := Sealed.mk (And.intro ho hb); clear ho hb))
 have hnM : n ≤ 9223372036854775807 := by
  have ho := HO.out.1
  rcases ho.2 with ⟨_, h0⟩ | ⟨g, cap, cur, -, -, -, h1, h2, -⟩
  ·omega
  ·unfold maxLen at h2; omega
 go_wp2_with fail
 go_loopg [6] n (fun jj kv W => ∃ k : Nat, jj = n - k ∧ k ≤ n ∧ kv = .int .i64 (k : Int) ∧ Sealed ((∀ j y, j < k → (partsV x)[j]? = some y → (form y).length ≤ 300) ∧ W.ownsRow w.heap.size 3 1 (.slice a n c) n (irow ((partsV x).map fun y => vs.idxOf y)) ∧ Below w.heap.size w W))
 case atStart => exact ⟨0, rfl, Nat.zero_le _, rfl, ⟨fun j y h => by omega, HO.out.1, HO.out.2⟩⟩
 case round =>
  obtain ⟨k, rfl, hk, rfl, HK⟩ := hrel
  by_cases hkn : k < n
  ·obtain ⟨y, hy⟩ : ∃ y, (partsV x)[k]? = some y := ⟨_, List.getElem?_eq_getElem (by rw [partsV_length, ← H.out.2.2]; exact hkn)⟩
   have hyv : vs[vs.idxOf y]? = some y := idxOf_get (partsV_mem H.out.1.cl H.out.2.1 (List.mem_of_getElem? hy))
   obtain ⟨p, hp⟩ : ∃ p, p = vs.idxOf y := ⟨_, rfl⟩
   obtain ⟨gq, cq, e1⟩ := own_form HK.out.2.1 (by omega)
   obtain ⟨rfl, _, rfl⟩ := Value.slice.inj e1
   clear e1
   have c1 := own_cell HK.out.2.1 (b := gq) rfl (irow_get (k := k) (n := p) (by rw [List.getElem?_map, hy, hp]; rfl))
   rw [← hp] at hyv
   obtain ⟨cap, a2, c2, f0, hcap, -, f1, ht, -⟩ := (H.out.1.below HK.out.2.2).form hyv
   obtain ⟨m, hm⟩ : ∃ m, m = (enc vs y).length := ⟨_, rfl⟩
   have hm2 : m = (form y).length := by rw [hm]; simp [enc]
   rw [← hm] at f1
   have hpl : p < vs.length := (List.getElem?_eq_some_iff.1 hyv).1
   have hpl' : (p : Int) < (vs.length : Int) := by omega
   have hkn' : (k : Int) < (n : Int) := by omega
   have hkw : wrap64 ((k : Int) + 1) = (k : Int) + 1 := by unfold wrap64; omega
   have HY := Sealed.mk (And.intro hy hm2); clear hy hm hm2 hyv hp ht
   by_cases hm3 : (300 : Int) < (m : Int)
   ·have bM : decide ((300 : Int) < (m : Int)) = true := decide_eq_true hm3
    have hm4 : 300 < m := by omega
    go_wp2_with fail
    go_quiet (fail)
    go_wp2_with fail
    go_ret
    exact ⟨⟨false, rfl, by
     simp only [Bool.false_eq_true, false_iff]
     exact (fun ha => by
      have := (allowed_iff.1 ha).1 y (List.mem_of_getElem? HY.out.1)
      have := HY.out.2
      omega)⟩, HK.out.2.2.trans ⟨rfl, rfl, rfl, Nat.le_refl _, fun _ _ => rfl⟩⟩
   ·have bM : decide ((300 : Int) < (m : Int)) = false := decide_eq_false hm3
    have hm4 : ¬ 300 < m := by omega
    have hm5 : m ≤ 300 := by omega
    go_wp2_with fail
    go_quiet (fail)
    go_wp2_with fail
    go_roundg (n - (k + 1))
    case measure => omega
    case rel => exact ⟨k + 1, rfl, by omega, by push_cast; rfl, ⟨fun j y2 hj h2 => by
     by_cases hjk : j < k
     ·exact HK.out.1 j y2 hjk h2
     ·obtain rfl : j = k := by omega
      rw [HY.out.1] at h2
      obtain rfl := Option.some.inj h2
      have := HY.out.2
      omega, HK.out.2.1, HK.out.2.2.trans ⟨rfl, rfl, rfl, Nat.le_refl _, fun _ _ => rfl⟩⟩⟩
  ·obtain rfl : k = n := by omega
   have hall : ∀ y ∈ partsV x, (form y).length ≤ 300 := fun y hy => by
    obtain ⟨j, hj⟩ := List.getElem?_of_mem hy
    exact HK.out.1 j y (by rw [H.out.2.2, ← partsV_length]; exact (List.getElem?_eq_some_iff.1 hj).1) hj
   have hht := rHeight_any (w := wr) (H.out.1.below HK.out.2.2) H.out.2.1
   obtain ⟨t, ht⟩ : ∃ t, t = height x := ⟨_, rfl⟩
   rw [← ht] at hht
   have HF := Sealed.mk (And.intro hall (And.intro hht ht)); clear hall hht ht
   by_cases hk2 : k ≤ 2000
   ·have bK : decide ((k : Int) ≤ 2000) = true := decide_eq_true (by omega)
    have bK2 : decide (k ≤ 2000) = true := decide_eq_true hk2
    have hd : t ≤ 100 ↔ Allowed x := by
     rw [allowed_iff, HF.out.2.2, ← H.out.2.2]
     exact ⟨fun h => ⟨HF.out.1, hk2, h⟩, fun h => h.2.2⟩
    have hd' : (t : Int) ≤ 100 ↔ Allowed x := by rw [← hd]; omega
    have HD := Sealed.mk (And.intro hd hd'); clear hd hd'
    go_wp2_with (go_at_call 62; go_must ((with_reducible refine HF.out.2.1.mono ?_); rintro e w2 ⟨rfl, hb⟩; have HB := Sealed.mk hb; clear hb))
    go_ret
    exact ⟨⟨_, rfl, by simp only [decide_eq_true_eq]; first | exact HD.out.1 | exact HD.out.2⟩, HK.out.2.2.trans ⟨HB.out.os, HB.out.tape, HB.out.output, HB.out.size, fun q hq => HB.out.block q (by have := HK.out.2.2.size; omega)⟩⟩
   ·have bK : decide ((k : Int) ≤ 2000) = false := decide_eq_false (by omega)
    have bK2 : decide (k ≤ 2000) = false := decide_eq_false hk2
    have hd : ¬ Allowed x := fun ha => by
     have := (allowed_iff.1 ha).2.1
     have := H.out.2.2
     omega
    have HD := Sealed.mk hd; clear hd
    go_wp2_with fail
    go_ret
    exact ⟨⟨false, rfl, by simp only [Bool.false_eq_true, false_iff]; exact HD.out⟩, HK.out.2.2⟩
end Go.Proofs.Ytgchfbfgjanaiaa

namespace Go.Proofs.Ytgchfbfgjanaiaa
open Go.RowKit Sr
theorem partsV_allP (x : Int) : partsV x = allP x := rfl
noncomputable def preN (x : Int) (k : Nat) : List Int := twoN (weight x) ++ ((partsV x).take k).flatMap fun y => formN (enc (pvs x) y)
theorem preN_zero (x : Int) : preN x 0 = twoN (weight x) := by simp [preN]
theorem preN_succ {x y : Int} {k : Nat} (h : (partsV x)[k]? = some y) : preN x (k + 1) = preN x k ++ formN (enc (pvs x) y) := by
 unfold preN
 rw [take_snoc h]
 simp
theorem preN_all {x : Int} {k : Nat} (h : weight x ≤ k) : preN x k = bytesN x := by
 unfold preN
 rw [List.take_of_length_le (by rw [partsV_length]; exact h), bytesN_suf, partsV_allP]
 unfold sufN
 rw [List.drop_zero]
theorem partsV_form {x y : Int} (hx : Allowed x) (h : y ∈ partsV x) : (form y).length ≤ 300 := (allowed_iff.1 hx).1 y h
theorem preN_length {x : Int} (hx : Allowed x) : ∀ k, (preN x k).length ≤ 2 + 902 * k
 | 0 => by simp [preN, twoN]
 | k + 1 => by
   have ih := preN_length hx k
   by_cases h : k < (partsV x).length
   ·have hy := List.getElem?_eq_getElem h
    have h1 := partsV_form hx (List.mem_of_getElem? hy)
    rw [preN_succ hy, List.length_append, formN_length]
    simp only [enc, List.length_map]
    omega
   ·have e : preN x (k + 1) = preN x k := by
     unfold preN
     rw [List.take_of_length_le (by omega), List.take_of_length_le (by omega)]
    rw [e]; omega
theorem idxOf_map {vs : List Int} : ∀ {A : List Int} {e : Int}, (∀ y ∈ A, y ∈ vs) → e ∈ A → (A.map fun y => vs.idxOf y).idxOf (vs.idxOf e) = A.idxOf e
 | [], e, _, h => by simp at h
 | a :: A, e, hA, h => by
   rw [List.map_cons, List.idxOf_cons, List.idxOf_cons]
   by_cases hae : a = e
   ·subst hae; simp
   ·have h1 : (a == e) = false := by simpa using hae
    have h2 : (vs.idxOf a == vs.idxOf e) = false := by
     simp only [beq_eq_false_iff_ne, ne_eq]
     exact fun hh => hae (idxOf_inj (hA a (by simp)) hh)
    have h3 : e ∈ A := by
     rcases List.mem_cons.1 h with h | h
     ·exact absurd h.symm hae
     ·exact h
    rw [h1, h2, cond_false, cond_false, idxOf_map (fun y hy => hA y (by simp [hy])) h3]
theorem place_exp {vs : List Int} (hcl : Cl vs) {i : Nat} {x : Int} (hi : vs[i]? = some x) {y : Int} (hy : y ∈ partsV x) {e : Nat} (he : e ∈ exps y) :
  vs.idxOf (e : Int) ∈ (partsV x).map (fun y => vs.idxOf y) ∧ ((partsV x).map fun y => vs.idxOf y).idxOf (vs.idxOf (e : Int)) = (pvs x).idxOf (e : Int) ∧ (pvs x).idxOf (e : Int) < weight x := by
 obtain ⟨j, hj⟩ := List.getElem?_of_mem hy
 have ha := allP_ahead (x := x) (y := y) (j := j) (by rw [← partsV_allP]; exact hj) he
 have hep : Part e x := by
  unfold partsV at hy
  rcases List.mem_append.1 hy with h | h
  ·obtain ⟨f, hf, rfl⟩ := List.mem_map.1 h
   exact (mem_plist.1 hf).up he
  ·obtain rfl := List.mem_singleton.1 h
   exact .here he
 have hm : (e : Int) ∈ pvs x := by unfold pvs; exact List.mem_map.2 ⟨e, mem_plist.2 hep, rfl⟩
 have hmV : (e : Int) ∈ partsV x := List.mem_append.2 (.inl hm)
 refine ⟨List.mem_map.2 ⟨_, hmV, rfl⟩, ?_, ?_⟩
 ·rw [idxOf_map (fun y hy => partsV_mem hcl hi hy) hmV]
  exact idxOf_prefix (v := pvs x) (v' := pvs x ++ [x]) (List.prefix_append _ _) hm
 ·have h1 := (List.getElem?_eq_some_iff.1 hj).1
  rw [partsV_length] at h1
  omega
end Go.Proofs.Ytgchfbfgjanaiaa

namespace Go.Proofs.Ytgchfbfgjanaiaa
open Go.RowKit Sr
theorem idxOf_le_of {j : Nat} : ∀ {L : List Nat} {k : Nat}, L[k]? = some j → L.idxOf j ≤ k
 | [], k, h => by simp at h
 | a :: L, 0, h => by
   simp at h
   subst h
   simp
 | a :: L, k + 1, h => by
   have ih := idxOf_le_of (L := L) (k := k) (by simpa using h)
   rw [List.idxOf_cons]
   cases hb : a == j
   ·simp only [cond_false]; omega
   ·simp only [cond_true]; omega
set_option maxRecDepth 100000 in
theorem rplace_any {w : World} {B n c j : Nat} {a : Option Addr} {L : List Nat} (hr : w.ownsRow B 3 1 (.slice a n c) n (irow L)) (hn : n ≤ 1000000000) (hj : j ∈ L) :
  Calls Try.prog 88 #[.slice a n c, .int .i64 (j : Int)] w fun e w' => e = .returned (.int .i64 (L.idxOf j : Nat)) ∧ w' = w := by
 have hL : L.length = n := by have := hr.1; rw [irow_length] at this; omega
 have H := Sealed.mk (And.intro hr (And.intro hj hL)); clear hr hj hL
 go_enter Try.func88, Try.ntmps88
 go_wp2_with fail
 go_loopg [5] n (fun jj kv W => ∃ k : Nat, jj = n - k ∧ k ≤ n ∧ kv = .int .i64 (k : Int) ∧ W = w ∧ Sealed (k ≤ L.idxOf j))
 case atStart => exact ⟨0, rfl, Nat.zero_le _, rfl, rfl, ⟨Nat.zero_le _⟩⟩
 case round =>
  obtain ⟨k, rfl, hk, rfl, rfl, HK⟩ := hrel
  have hlt : L.idxOf j < n := by rw [← H.out.2.2]; exact List.idxOf_lt_length_of_mem H.out.2.1
  have hkn : k < n := by have := HK.out; omega
  obtain ⟨y, hy⟩ : ∃ y, L[k]? = some y := ⟨_, List.getElem?_eq_getElem (by rw [H.out.2.2]; exact hkn)⟩
  obtain ⟨gq, cq, e1⟩ := own_form H.out.1 (by omega)
  obtain ⟨rfl, _, rfl⟩ := Value.slice.inj e1
  clear e1
  have c1 := own_cell H.out.1 (b := gq) rfl (irow_get hy)
  have hkn' : (k : Int) < (n : Int) := by omega
  have hkw : wrap64 ((k : Int) + 1) = (k : Int) + 1 := by unfold wrap64; omega
  have HY := Sealed.mk (And.intro hy hlt); clear hy hlt
  by_cases hyj : y = j
  ·have bE : ((y : Int) == (j : Int)) = true := by simp [hyj]
   have HE := Sealed.mk hyj; clear hyj
   go_wp2_with fail
   go_ret
   refine ⟨?_, rfl⟩
   have h1 : L.idxOf j = k := by
    have h2 := HY.out.1
    rw [HE.out] at h2
    have h3 := idxOf_le_of h2
    have := HK.out
    omega
   rw [h1]; rfl
  ·have bE : ((y : Int) == (j : Int)) = false := by simp; omega
   have HE := Sealed.mk hyj; clear hyj
   go_wp2_with fail
   go_roundg (n - (k + 1))
   case measure => omega
   case rel => exact ⟨k + 1, rfl, by omega, by push_cast; rfl, rfl, ⟨by
    have h0 := HK.out
    rcases Nat.lt_or_ge k (L.idxOf j) with h4 | h4
    ·omega
    ·have h5 : L.idxOf j = k := by omega
     have h6 := List.getElem?_eq_getElem (List.idxOf_lt_length_of_mem H.out.2.1)
     rw [List.getElem_idxOf] at h6
     rw [h5, HY.out.1] at h6
     exact absurd (Option.some.inj h6) HE.out⟩⟩
end Go.Proofs.Ytgchfbfgjanaiaa

namespace Go.Proofs.Ytgchfbfgjanaiaa
open Go.RowKit Sr
set_option maxRecDepth 100000 in
theorem rtwo_any {w : World} {n : Nat} (hn : n < 65536) :
  Calls Try.prog 87 #[.int .i64 (n : Int)] w fun e w' => e = .returned (.slice (some ⟨w.heap.size, 0, none⟩) 2 2) ∧ w' = w.alloc (.cells (u8s (twoN n)).toArray 5) := by
 go_enter Try.func87, Try.ntmps87
 go_wp2
 go_ret
 have e1 : ((n / 256 : Nat) : Int) = (n : Int) / 256 := by omega
 have e2 : ((n % 256 : Nat) : Int) = (n : Int) % 256 := by omega
 refine ⟨rfl, ?_⟩
 simp only [u8s, twoN, List.map_cons, List.map_nil, e1, e2]
end Go.Proofs.Ytgchfbfgjanaiaa
