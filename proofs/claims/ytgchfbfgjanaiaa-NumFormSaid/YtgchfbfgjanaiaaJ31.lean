/-
  Load's closure: two bytes off what is left
  num.world.formed
  Load: plain: what is read of a number's bytes
-/
import Derived.Test.YtgchfbfgjanaiaaJ08
import Derived.Test.YtgchfbfgjanaiaaJ30
import Derived.Laws.Bits64
import Derived.Test.YtgchfbfgjanaiaaJ25
import Derived.Test.YtgchfbfgjanaiaaJ07
import Derived.Deep.QuietTactic
import Derived.BigQuiet
set_option linter.unusedSimpArgs false
set_option linter.unusedVariables false
namespace Go.Proofs.Ytgchfbfgjanaiaa
open Go.RowKit Sr
theorem or_two {x y : Int} (hx : 0 ≤ x ∧ x < 256) (hy : 0 ≤ y ∧ y < 256) : bits .or .i64 (x * 256) y = x * 256 + y := by
  obtain ⟨a, rfl⟩ : ∃ a : Nat, x = a := ⟨x.toNat, by omega⟩
  obtain ⟨b, rfl⟩ : ∃ b : Nat, y = b := ⟨y.toNat, by omega⟩
  have hor : (a * 256) ||| b = a * 256 + b := by
    have := Nat.shiftLeft_add_eq_or_of_lt (i := 8) (b := b) (by omega) a
    rw [Nat.shiftLeft_eq] at this
    exact this.symm
  have h1 : (BitVec.ofInt 64 ((a : Int) * 256)).toNat = a * 256 := by
    rw [show ((a : Int) * 256) = ((a * 256 : Nat) : Int) by omega, BitVec.ofInt_natCast, BitVec.toNat_ofNat]; exact Nat.mod_eq_of_lt (by omega)
  have h2 : (BitVec.ofInt 64 (b : Int)).toNat = b := by
    rw [BitVec.ofInt_natCast, BitVec.toNat_ofNat]; exact Nat.mod_eq_of_lt (by omega)
  show IntKind.i64.wrap ((BitVec.ofInt 64 ((a : Int) * 256) ||| BitVec.ofInt 64 (b : Int)).toNat : Int) = _
  rw [BitVec.toNat_or, h1, h2, hor, IntKind.wrap_i64]
  omega
structure LeftAt (W : World) (lv : Nat) (l : List Int) : Prop where
  range : ∀ x ∈ l, 0 ≤ x ∧ x < 256
  len : l.length ≤ 1000000000
  var : ∃ a c, W.heap[lv]? = some (.cells #[.slice a l.length c] 22 (0, 0)) ∧ l.length ≤ c ∧ (l ≠ [] → ∃ b o, a = some ⟨b, o, none⟩ ∧ b ≠ lv ∧ b < W.heap.size ∧ TyBlk W b 5 ∧ ∀ (i : Nat) (x : Int), l[i]? = some x → W.cell? ⟨b, o + i, none⟩ = some (.int .u8 x))
theorem LeftAt.keep {W W1 : World} {lv : Nat} {l : List Int} {M : Nat → Prop} (h : LeftAt W lv l) (e : Ext M W W1) (hM : ¬ M lv) (hB : ∀ k, M k → ¬ TyBlk W k 5) : LeftAt W1 lv l := by
  obtain ⟨a, c, h1, h2, h3⟩ := h.var
  refine ⟨h.range, h.len, a, c, e.get h1 hM, h2, fun hl => ?_⟩
  obtain ⟨b, o, q1, q2, q3, q4, q5⟩ := h3 hl
  have hb := e.block b q3 (fun hm => hB b hm q4)
  exact ⟨b, o, q1, q2, Nat.lt_of_lt_of_le q3 e.size, q4.same hb, fun i x hx => (cell_same hb _).trans (q5 i x hx)⟩
theorem LeftAt.set {W : World} {lv : Nat} {l : List Int} (h : LeftAt W lv l) {W1 : World} (hW : W1.heap = W.heap) {l' : List Int} {a : Option Addr} {c : Nat} (hr : ∀ x ∈ l', 0 ≤ x ∧ x < 256) (hlen : l'.length ≤ 1000000000) (hc : l'.length ≤ c)
    (hl : l' ≠ [] → ∃ b o, a = some ⟨b, o, none⟩ ∧ b ≠ lv ∧ b < W.heap.size ∧ TyBlk W b 5 ∧ ∀ (i : Nat) (x : Int), l'[i]? = some x → W.cell? ⟨b, o + i, none⟩ = some (.int .u8 x)) :
    LeftAt (W1.setCell ⟨lv, 0, none⟩ (.slice a l'.length c)) lv l' := by
  obtain ⟨a0, c0, h1, -, -⟩ := h.var
  have h1' : W1.heap[lv]? = some (.cells #[.slice a0 l.length c0] 22 (0, 0)) := by rw [hW]; exact h1
  refine ⟨hr, hlen, a, c, by rw [blk_setCell h1' 0 _]; rfl, hc, fun hne => ?_⟩
  obtain ⟨b, o, q1, q2, q3, q4, q5⟩ := hl hne
  have e : Ext (fun q => q = lv) W1 (W1.setCell ⟨lv, 0, none⟩ (.slice a l'.length c)) := (Ext.refl (fun q => q = lv) W1).setCell (p := ⟨lv, 0, none⟩) (.inl rfl) _
  have hb := e.block b (by rw [hW]; exact q3) q2
  have hb2 : (W1.setCell ⟨lv, 0, none⟩ (.slice a l'.length c)).heap[b]? = W.heap[b]? := by rw [hb, hW]
  exact ⟨b, o, q1, q2, by have := e.size; rw [hW] at this; omega, q4.same hb2, fun i x hx => (cell_same hb2 _).trans (q5 i x hx)⟩
def two2 : List Int → Int × List Int
  | x :: y :: l => (x * 256 + y, l)
  | _ => (-1, [])
set_option maxRecDepth 100000 in
set_option maxHeartbeats 4000000 in
theorem loadN_two {w : World} {lv b o n c : Nat} {x y : Int} (hv : w.heap[lv]? = some (.cells #[.slice (some ⟨b, o, none⟩) (n + 2) c] 22 (0, 0))) (hc : n + 2 ≤ c) (h0 : w.cell? ⟨b, o, none⟩ = some (.int .u8 x)) (h1 : w.cell? ⟨b, o + 1, none⟩ = some (.int .u8 y)) (hx : 0 ≤ x ∧ x < 256) (hy : 0 ≤ y ∧ y < 256) :
    Calls Try.prog 53 #[.pointer (some ⟨lv, 0, none⟩)] w fun e w' => e = .returned (.int .i64 (x * 256 + y)) ∧ ∃ nq o' c', w' = (w.drewN nq).setCell ⟨lv, 0, none⟩ (.slice (some ⟨b, o', none⟩) n c') ∧ n ≤ c' ∧ (n ≠ 0 → o' = o + 2) := by
  have c0 : w.cell? ⟨lv, 0, none⟩ = some (.slice (some ⟨b, o, none⟩) (n + 2) c) := (cell_of_blk hv 0).trans rfl
  have f0 : w.frozen? ⟨lv, 0, none⟩ = false := frozen_of_blk hv 0
  have c0d : w.drew.cell? ⟨lv, 0, none⟩ = some (.slice (some ⟨b, o, none⟩) (n + 2) c) := c0
  have h0d : w.drew.cell? ⟨b, o, none⟩ = some (.int .u8 x) := h0
  have h1d : w.drew.cell? ⟨b, o + 1, none⟩ = some (.int .u8 y) := h1
  have hor := or_two hx hy
  have HOR := Sealed.mk hor; clear hor
  go_enter Try.func53, Try.ntmps53
  go_upto_region 4 with fail
  go_quiet (fail)
  rw [HOR.out]
  obtain ⟨W1, hW1⟩ : ∃ W1, W1 = w.drewN nq := ⟨_, rfl⟩
  have d0 : W1.cell? ⟨lv, 0, none⟩ = some (.slice (some ⟨b, o, none⟩) (n + 2) c) := by rw [hW1]; exact c0
  have d1 : W1.frozen? ⟨lv, 0, none⟩ = false := by rw [hW1]; exact f0
  rw [← hW1]
  have HW1 := Sealed.mk hW1; clear hW1
  go_wp2_with fail
  · rename_i h2
    go_ret
    exact ⟨rfl, nq, o, 0, by rw [HW1.out], by omega, by omega⟩
  · rename_i h2
    go_ret
    exact ⟨rfl, nq, o + 2, c - 2, by rw [HW1.out], by omega, fun _ => rfl⟩
set_option maxRecDepth 100000 in
set_option maxHeartbeats 4000000 in
theorem loadN_any {w : World} {lv : Nat} {l : List Int} (h : LeftAt w lv l) :
    Calls Try.prog 53 #[.pointer (some ⟨lv, 0, none⟩)] w fun e w' => e = .returned (.int .i64 (two2 l).1) ∧ LeftAt w' lv (two2 l).2 ∧ Ext (fun q => q = lv) w w' := by
  obtain ⟨a, c, h1, h2, h3⟩ := h.var
  have c0 : w.cell? ⟨lv, 0, none⟩ = some (.slice a l.length c) := (cell_of_blk h1 0).trans rfl
  have f0 : w.frozen? ⟨lv, 0, none⟩ = false := frozen_of_blk h1 0
  by_cases hl : l.length < 2
  · have e2 : two2 l = (-1, []) := by
      match l, hl with
      | [], _ => rfl
      | [_], _ => rfl
      | _ :: _ :: _, h => simp at h; omega
    rw [e2]
    obtain ⟨n, hn⟩ : ∃ n, n = l.length := ⟨_, rfl⟩
    rw [← hn] at c0 hl
    have H := Sealed.mk (And.intro h hn); clear h h1 h3 hn e2
    go_enter Try.func53, Try.ntmps53
    go_wp2_with fail
    go_ret
    exact ⟨rfl, H.out.1.set rfl (l' := []) (a := none) (c := 0) (by simp) (by simp) (by simp) (fun h => absurd rfl h), (Ext.refl (fun q => q = lv) w).setCell (p := ⟨lv, 0, none⟩) (.inl rfl) _⟩
  · match l, hl, h, h1, h2, h3, c0 with
    | [], hl, _, _, _, _, _ => simp at hl
    | [_], hl, _, _, _, _, _ => simp at hl
    | x :: y :: l', _, h, h1, h2, h3, c0 =>
      obtain ⟨b, o, rfl, q2, q3, q4, q5⟩ := h3 (by simp)
      have hx := h.range x (by simp)
      have hy := h.range y (by simp)
      refine (loadN_two (n := l'.length) h1 (by simpa using h2) (q5 0 x rfl) (q5 1 y rfl) hx hy).mono ?_
      rintro e w' ⟨rfl, nq, o', c', rfl, hc', ho'⟩
      have hw : (w.drewN nq).heap = w.heap := rfl
      refine ⟨rfl, h.set hw (l' := l') (a := some ⟨b, o', none⟩) (c := c') (fun z hz => h.range z (by simp [hz])) (by have := h.len; simp at this ⊢; omega) hc' (fun hne => ⟨b, o', rfl, q2, q3, q4, fun i z hz => ?_⟩), ((Ext.refl (fun q => q = lv) w).drewN nq).setCell (p := ⟨lv, 0, none⟩) (.inl rfl) _⟩
      rw [ho' (fun e => hne (List.eq_nil_of_length_eq_zero e)), Nat.add_assoc, Nat.add_comm 2 i]
      exact q5 (i + 2) z (by simpa using hz)
end Go.Proofs.Ytgchfbfgjanaiaa

namespace Go.Proofs.Ytgchfbfgjanaiaa
open Go.RowKit Sr
def encZ (vs : List Int) (l : List (Bool × Int)) : List (Bool × Nat) := l.map fun t => (t.1, vs.idxOf t.2)
theorem encZ_length (vs : List Int) (l : List (Bool × Int)) : (encZ vs l).length = l.length := by simp [encZ]
theorem encZ_prefix {v v' : List Int} (hp : v <+: v') {l : List (Bool × Int)} (h : ∀ t ∈ l, t.2 ∈ v) : encZ v' l = encZ v l := by
  unfold encZ
  apply List.map_congr_left
  intro t ht
  rw [idxOf_prefix hp (h t ht)]
def GoodAt (l : List (Bool × Int)) (i : Nat) : Prop := ∀ t, l[i]? = some t → 0 ≤ t.2 ∧ ∀ s, 0 < i → l[i - 1]? = some s → t.2 + 1 < s.2
def FormedZ (l : List (Bool × Int)) : Prop := ∀ i, GoodAt l i
def FormedOut (U : List Int) (w : World) (b : WB) (vs : List Int) (l : List (Bool × Int)) (e : Ending) (w' : World) : Prop :=
  ∃ vs' b' d, e = .returned (.bool d) ∧ (d = true ↔ FormedZ l) ∧ WStep U w w' b b' vs vs' ∧ FStep noB w w' b b' vs vs'
theorem cs_step {U : List Int} {w w' : World} {b : WB} {vs : List Int} (hi : WInv w b vs U) (h : CS w w' b vs U) : WStep U w w' b b vs vs ∧ FStep noB w w' b b vs vs :=
  ⟨h.step, FStep.same h.ext (hi.lt _ (.inr (.inl rfl))) (fun e => hi.apart.2.2.2.2.2.2.1 e)⟩
set_option maxRecDepth 100000 in
set_option maxHeartbeats 4000000 in
theorem formed_any {w : World} {b : WB} {vs U : List Int} (h : WInv w b vs U) {v : Value} {l : List (Bool × Int)} (hl : TL w v (encZ vs l)) (hin : ∀ t ∈ l, t.2 ∈ vs) (hv : ∀ q, v.ownBlock = some q → ¬ b.M q) (hN : ∀ t ∈ l, 0 ≤ t.2 → NextIn U t.2.toNat) :
    Calls Try.prog 54 #[.pointer (some ⟨b.p, 0, none⟩), v] w (FormedOut U w b vs l) := by
  obtain ⟨a, n, c, rfl⟩ := hl.slice
  obtain ⟨hn, hn1, hnc, -⟩ := hl.cells
  rw [encZ_length] at hn
  have H := Sealed.mk (And.intro h (And.intro hl (And.intro hin (And.intro hv (And.intro hN hn))))); clear h hl hin hv hN hn
  go_enter Try.func54, Try.ntmps54
  go_wp2_with fail
  go_loopg [9] n (fun jj iv W => ∃ (k : Nat) (vs1 : List Int) (b1 : WB), jj = n - k ∧ k ≤ n ∧ iv = .int .i64 (k : Int) ∧ WStep U w W b b1 vs vs1 ∧ FStep noB w W b b1 vs vs1 ∧ ∀ i, i < k → GoodAt l i)
  case atStart => exact ⟨0, vs, b, rfl, Nat.zero_le _, rfl, WStep.refl H.out.1, FStep.refl, fun i h => by omega⟩
  case round =>
    obtain ⟨k, vs1, b1, rfl, hk, rfl, hst, hfs, hgood⟩ := hrel
    by_cases hkl : k < n
    · obtain ⟨⟨m, e⟩, ht⟩ : ∃ t, l[k]? = some t := ⟨_, List.getElem?_eq_getElem (by have := H.out.2.2.2.2.2; omega)⟩
      have htr : TL wr (.slice a n c) (encZ vs l) := H.out.2.1.ext hst.ext (fun q hq => H.out.2.2.2.1 q hq)
      have hte : (encZ vs l)[k]? = some (m, vs.idxOf e) := by simp [encZ, ht]
      obtain ⟨-, -, -, hcell⟩ := htr.cells
      obtain ⟨bb, oo, rfl, h1, h2⟩ := hcell k _ hte
      have hev : e ∈ vs := H.out.2.2.1 _ (List.mem_of_getElem? ht)
      have hev1 := hst.pre.subset hev
      obtain ⟨i, hi⟩ : ∃ i, i = vs.idxOf e := ⟨_, rfl⟩
      have hi1 : i = vs1.idxOf e := by rw [hi, idxOf_prefix hst.pre hev]
      simp only at h1 h2
      rw [← hi] at h2
      have hi' : vs1[i]? = some e := by rw [hi1]; exact idxOf_get hev1
      obtain ⟨W1, hW1⟩ : ∃ W1, W1 = wr.alloc (.cells #[.bool m, .int .i64 (i : Int)] 98) := ⟨_, rfl⟩
      have bw1 : Below wr.heap.size wr W1 := by rw [hW1]; exact (Below.refl _ _).alloc (Nat.le_refl _) _
      have bw1d : Below wr.heap.size wr W1.drew := ⟨bw1.os, bw1.tape, bw1.output, bw1.size, bw1.block⟩
      have kb : W1.drew.heap[wr.heap.size]? = some (.cells #[.bool m, .int .i64 (i : Int)] 98 (0, 0)) := by rw [hW1]; exact blk_alloc _ _
      have k1 : W1.drew.cell? ⟨wr.heap.size, 1, none⟩ = some (.int .i64 (i : Int)) := (cell_of_blk kb 1).trans rfl
      have hinv1 := hst.inv.below bw1d
      obtain ⟨nv, hnv⟩ : ∃ nv, nv = vs1.length := ⟨_, rfl⟩
      have hil : i < nv := by rw [hnv]; exact (List.getElem?_eq_some_iff.1 hi').1
      have hil2 : (i : Int) < (nv : Int) := by omega
      have hiz : (0 : Int) ≤ (i : Int) := by omega
      obtain ⟨cap, cur, f1, f2, f3, f4, f5, f6⟩ := hinv1.forms
      obtain ⟨va, g1, t1, o1⟩ := f6 i _ hi'
      have c0 : W1.drew.cell? ⟨b.p, 0, none⟩ = some (.slice (some ⟨b1.f, 0, none⟩) nv cap) := by rw [← hst.p, hnv]; exact (cell_of_blk f1 0).trans rfl
      have c1 : W1.drew.cell? ⟨b1.f, i, none⟩ = some va := (cell_of_blk f2 i).trans g1
      have t1' : TL W1 va (enc vs1 e) := t1.ext (M := noB) (w := W1.drew) ⟨rfl, rfl, rfl, Nat.le_refl _, fun _ _ _ => rfl⟩ (fun _ _ h => h)
      have hsg := fun nq => sign_any (t1'.ext ((Ext.refl noB W1).drewN nq) (fun _ _ h => h))
      rw [sgnT_enc] at hsg
      obtain ⟨aa, na, ca, eva⟩ := t1.slice
      subst eva
      have hsgq : ∀ nq, Calls Try.prog 83 #[.slice aa na ca] (W1.drewN nq) fun e' w' => e' = .returned (.int .i64 (sg e)) ∧ w' = W1.drewN nq := fun nq => (hsg nq).mono fun e' w' h => ⟨h.1, h.2.symm⟩
      have HSG := Sealed.mk hsgq; clear hsg hsgq
      have c0w : W1.cell? ⟨b.p, 0, none⟩ = some (.slice (some ⟨b1.f, 0, none⟩) nv cap) := c0
      have c1w : W1.cell? ⟨b1.f, i, none⟩ = some (.slice aa na ca) := c1
      have k1w : W1.cell? ⟨wr.heap.size, 1, none⟩ = some (.int .i64 (i : Int)) := k1
      obtain ⟨bad, hbad⟩ : ∃ bad : Bool, bad = true ↔ ¬ GoodAt l k := ⟨@decide (¬ GoodAt l k) (Classical.propDecidable _), by simp⟩
      have bwn : ∀ nq, Below wr.heap.size wr (W1.drewN nq) := fun nq => ⟨bw1.os, bw1.tape, bw1.output, bw1.size, bw1.block⟩
      have hst1 : ∀ nq, WStep U w (W1.drewN nq) b b1 vs vs1 := fun nq => hst.trans (WStep.kept hst.inv (bwn nq))
      have hfs1 : ∀ nq, FStep noB w (W1.drewN nq) b b1 vs vs1 := fun nq => hfs.trans (FStep.same (X := noB) (Ext.of_below (M := noB) (bwn nq)) (hst.inv.lt _ (.inr (.inl rfl))) (fun e => e)) hst.ext.size (fun _ e => e.elim)
      have HR := Sealed.mk (And.intro hst1 (And.intro hfs1 (And.intro hgood (And.intro ht (And.intro hbad (And.intro hev1 (And.intro hi1 (And.intro htr (And.intro kb hst)))))))))
      clear bwn hst hfs hgood ht hbad hev1 hev hi hi1 hi' hte hcell bw1 bw1d kb hinv1 f1 f2 f3 f4 f5 f6 g1 t1 o1 hnv hst1 hfs1
      go_upto_region 4 with fail
      rw [← hW1]
      have HW1 := Sealed.mk hW1; clear hW1 htr
      go_cut [42] (fun v42 wx => ∃ vs2 b2, v42 = .bool bad ∧ WStep U w wx b b2 vs vs2 ∧ FStep noB w wx b b2 vs vs2)
      case first =>
        by_cases hneg : e < 0
        · have hd : sg e = -1 := by unfold sg; rw [if_pos hneg]
          rw [hd] at HSG
          have hbt : bad = true := HR.out.2.2.2.2.1.2 fun hg => by have := (hg _ HR.out.2.2.2.1).1; simp only at this; omega
          subst hbt
          have HNEG := Sealed.mk hneg; clear hneg hd
          go_quiet ((go_at_call 83; exact Calls.quiet_of_same (HSG.out _)))
          go_wp2_with fail
          go_meet
          case rel => exact ⟨vs1, b1, rfl, HR.out.1 nq, HR.out.2.1 nq⟩
        · obtain ⟨d, hd0, hd⟩ : ∃ d : Int, (d = 0 ∨ d = 1) ∧ sg e = d := by unfold sg; rw [if_neg hneg]; split; exact ⟨0, .inl rfl, rfl⟩; exact ⟨1, .inr rfl, rfl⟩
          rw [hd] at HSG
          have HNEG := Sealed.mk hneg; clear hneg hd
          by_cases hk0 : k = 0
          · subst hk0
            have hbt : bad = false := by
              cases hb : bad with
              | false => rfl
              | true =>
                refine absurd ?_ (HR.out.2.2.2.2.1.1 hb)
                intro t htt
                rw [HR.out.2.2.2.1] at htt
                obtain rfl := Option.some.inj htt
                exact ⟨by have := HNEG.out; simp only; omega, fun s h => by omega⟩
            subst hbt
            rcases hd0 with rfl | rfl
            all_goals
              go_quiet ((go_at_call 83; exact Calls.quiet_of_same (HSG.out _)))
              go_wp2_with fail
              go_meet
              case rel => exact ⟨vs1, b1, rfl, HR.out.1 nq, HR.out.2.1 nq⟩
          · obtain ⟨km, hkm⟩ : ∃ km, k = km + 1 := ⟨k - 1, by omega⟩
            obtain ⟨⟨m0, f⟩, hs⟩ : ∃ t, l[km]? = some t := ⟨_, List.getElem?_eq_getElem (by have := H.out.2.2.2.2.2; omega)⟩
            have hse : (encZ vs l)[km]? = some (m0, vs.idxOf f) := by simp [encZ, hs]
            obtain ⟨-, -, -, hcell⟩ := HR.out.2.2.2.2.2.2.2.1.cells
            obtain ⟨bb', oo', hbo, -, g2⟩ := hcell km _ hse
            obtain ⟨rfl, rfl⟩ : bb = bb' ∧ oo = oo' := by
              have := Option.some.inj hbo
              simp only [Addr.mk.injEq] at this
              exact ⟨this.1, this.2.1⟩
            have hfv : f ∈ vs := H.out.2.2.1 _ (List.mem_of_getElem? hs)
            have hfv1 : f ∈ vs1 := HR.out.2.2.2.2.2.2.2.2.2.pre.subset hfv
            obtain ⟨jf, hjf⟩ : ∃ jf, jf = vs.idxOf f := ⟨_, rfl⟩
            have hjf1 : jf = vs1.idxOf f := by rw [hjf, idxOf_prefix HR.out.2.2.2.2.2.2.2.2.2.pre hfv]
            simp only at g2
            rw [← hjf] at g2
            have hxw : Ext noB wr W1 := by rw [HW1.out]; exact (Ext.refl noB wr).alloc _
            have d2 : W1.drew.cell? ⟨bb, oo + km * 2 + 1, none⟩ = some (.int .i64 (jf : Int)) := (cell_same (hxw.block bb (lt_of_cell g2) (fun e => e)) _).trans g2
            have hez : ((e.toNat : Nat) : Int) = e := by have := HNEG.out; omega
            have hwk : IntKind.i64.wrap ((k : Int) - 1) = (km : Int) := by rw [IntKind.wrap_i64]; omega
            have hkn : km < n := by omega
            have hkz : (0 : Int) ≤ (km : Int) := by omega
            have hkz2 : (km : Int) < (n : Int) := by omega
            have hk1 : decide ((0 : Int) < (k : Int)) = true := decide_eq_true (by omega)
            have hk2 : decide (0 < k) = true := decide_eq_true (by omega)
            have hnx := next_any (H.out.2.2.2.2.1 _ (List.mem_of_getElem? HR.out.2.2.2.1) (by have := HNEG.out; simp only; omega)) (W1.drew) b1 vs1 ((HR.out.1 1).inv.below ⟨rfl, rfl, rfl, Nat.le_refl _, fun _ _ => rfl⟩)
            simp only [hez] at hnx
            have hnx2 := hnx HR.out.2.2.2.2.2.1
            rw [← HR.out.2.2.2.2.2.2.1, HR.out.2.2.2.2.2.2.2.2.2.p] at hnx2
            have HNX := Sealed.mk hnx2; clear hnx hnx2
            have HEZ := Sealed.mk hez; clear hez
            have HKM := Sealed.mk hkm; clear hkm hk0
            have HS := Sealed.mk (And.intro hs (And.intro hfv1 hjf1)); clear hs hse hcell hbo hfv hfv1 hjf hjf1 g2
            have hM1 : ∀ q, b1.M q → q ≠ bb := fun q hq e => by
              rcases HR.out.2.2.2.2.2.2.2.2.2.news q hq with h | h
              · exact H.out.2.2.2.1 bb rfl (e ▸ h)
              · have h5 : bb < w.heap.size := H.out.2.1.lt bb rfl
                omega
            have hks : ∀ W, Ext b1.M W1.drew W → W.cell? ⟨bb, oo + km * 2 + 1, none⟩ = some (.int .i64 (jf : Int)) := fun W e => (cell_same (e.block _ (lt_of_cell d2) (fun h => hM1 _ h rfl)) _).trans d2
            have HKS := Sealed.mk hks; clear hks hM1
            obtain ⟨d', hd, hd2⟩ : ∃ d' : Int, d' = d ∧ decide (d' < 0) = false := ⟨d, rfl, by rcases hd0 with rfl | rfl <;> rfl⟩
            rw [← hd] at HSG
            clear hd hd0
            have hsgd : Calls Try.prog 83 #[.slice aa na ca] W1.drew fun e' w' => e' = .returned (.int .i64 d') ∧ w' = W1.drew := HSG.out 1
            have HSGD := Sealed.mk hsgd; clear hsgd HSG c0w c1w k1w hxw
            obtain ⟨KI, hKI⟩ : ∃ KI : Int, KI = (k : Int) := ⟨_, rfl⟩
            rw [← hKI] at hwk hk1 ⊢
            have HKI := Sealed.mk hKI; clear hKI hk2 hk hkl
            have hkb : ∀ W, Ext b1.M W1.drew W → W.cell? ⟨wr.heap.size, 1, none⟩ = some (.int .i64 (i : Int)) ∧ W.cell? ⟨bb, oo + km * 2 + 1, none⟩ = some (.int .i64 (jf : Int)) := fun W e => ⟨(cell_same (e.block _ (lt_of_cell k1) (fun h => Nat.lt_irrefl _ (HR.out.2.2.2.2.2.2.2.2.2.inv.lt _ h))) _).trans k1, HKS.out W e⟩
            have HKB := Sealed.mk hkb; clear hkb
            refine wp_region_noPanic ?_
            refine wp_region_held_drew (S := fun w' => w'.cell? ⟨wr.heap.size, 1, none⟩ = some (.int .i64 (i : Int)) ∧ w'.cell? ⟨bb, oo + km * 2 + 1, none⟩ = some (.int .i64 (jf : Int))) (by kernel_rfl) ?_ (fun hHeld => ?_)
            · exact ⟨k1, d2⟩
            refine wpAnyH_take (i := 0) (v := ?_) rfl (by kernel_rfl) (by kernel_rfl) (by kernel_rfl) (fun _ _ _ h => h) (Or.inl ⟨by rfl, ?_⟩) (by assumption) ?_
            rotate_left
            · intro w hSw; (try dsimp only at hSw); go_simp; first | done | with_reducible rfl
            simp only [Act.put, List.getElem_toArray, List.getElem_cons_zero, List.getElem_cons_succ, List.setIfInBounds_toArray, List.set_cons_zero, List.set_cons_succ]
            refine wpAnyH_take (i := 1) (v := ?_) rfl (by kernel_rfl) (by kernel_rfl) (by kernel_rfl) (fun _ _ _ h => h) (Or.inl ⟨by rfl, ?_⟩) (by assumption) ?_
            rotate_left
            · intro w hSw; (try dsimp only at hSw); go_simp; first | done | with_reducible rfl
            simp only [Act.put, List.getElem_toArray, List.getElem_cons_zero, List.getElem_cons_succ, List.setIfInBounds_toArray, List.set_cons_zero, List.set_cons_succ]
            refine wpAnyH_take (i := 2) (v := ?_) rfl (by kernel_rfl) (by kernel_rfl) (by kernel_rfl) (fun _ _ _ h => h) (Or.inl ⟨by rfl, ?_⟩) (by assumption) ?_
            rotate_left
            · intro w hSw; (try dsimp only at hSw); go_simp; first | done | with_reducible rfl
            simp only [Act.put, List.getElem_toArray, List.getElem_cons_zero, List.getElem_cons_succ, List.setIfInBounds_toArray, List.set_cons_zero, List.set_cons_succ]
            refine wpAnyH_take (i := 4) (v := ?_) rfl (by kernel_rfl) (by kernel_rfl) (by kernel_rfl) (fun _ _ _ h => h) (Or.inl ⟨by rfl, ?_⟩) (by assumption) ?_
            rotate_left
            · intro w hSw; (try dsimp only at hSw); go_simp; first | done | with_reducible rfl
            simp only [Act.put, List.getElem_toArray, List.getElem_cons_zero, List.getElem_cons_succ, List.setIfInBounds_toArray, List.set_cons_zero, List.set_cons_succ]
            refine wpAnyH_take (i := 5) (v := ?_) rfl (by kernel_rfl) (by kernel_rfl) (by kernel_rfl) (fun _ _ _ h => h) (Or.inl ⟨by rfl, ?_⟩) (by assumption) ?_
            rotate_left
            · intro w hSw; (try dsimp only at hSw); go_simp; first | done | with_reducible rfl
            simp only [Act.put, List.getElem_toArray, List.getElem_cons_zero, List.getElem_cons_succ, List.setIfInBounds_toArray, List.set_cons_zero, List.set_cons_succ]
            refine wpAnyH_ready (rs := [3]) (by kernel_rfl) (by simp) ?_
            refine AllReadyH.cons rfl (fun K hK => ?_) AllReadyH.nil
            go_simp
            refine hK.out _ _ ?_ (fun hHeld => ?_)
            · exact ⟨k1, d2⟩
            clear hK K
            try simp only [Act.put, List.getElem_toArray, List.getElem_cons_zero, List.getElem_cons_succ, List.setIfInBounds_toArray, List.set_cons_zero, List.set_cons_succ]
            refine wpAnyH_take (i := 6) (v := ?_) rfl (by kernel_rfl) (by kernel_rfl) (by kernel_rfl) (fun _ _ _ h => h) (Or.inl ⟨by rfl, ?_⟩) (by assumption) ?_
            rotate_left
            · intro w hSw; (try dsimp only at hSw); go_simp; first | done | with_reducible rfl
            simp only [Act.put, List.getElem_toArray, List.getElem_cons_zero, List.getElem_cons_succ, List.setIfInBounds_toArray, List.set_cons_zero, List.set_cons_succ]
            refine wpAnyH_ready (rs := [7]) (by kernel_rfl) (by simp) ?_
            refine AllReadyH.cons rfl (fun K hK => ?_) AllReadyH.nil
            go_simp
            refine hK.out _ _ ?_ (fun hHeld => ?_)
            · exact ⟨k1, d2⟩
            clear hK K
            try simp only [Act.put, List.getElem_toArray, List.getElem_cons_zero, List.getElem_cons_succ, List.setIfInBounds_toArray, List.set_cons_zero, List.set_cons_succ]
            refine wpAnyH_ready (rs := [8]) (by kernel_rfl) (by simp) ?_
            refine AllReadyH.cons rfl (fun K hK => ?_) AllReadyH.nil
            go_simp
            (go_at_call 83; go_must (refine HSGD.out.mono ?_; rintro e9 w9 ⟨rfl, rfl⟩)); try go_simp
            refine hK.out _ _ ?_ (fun hHeld => ?_)
            · exact ⟨k1, d2⟩
            clear hK K
            try simp only [Act.put, List.getElem_toArray, List.getElem_cons_zero, List.getElem_cons_succ, List.setIfInBounds_toArray, List.set_cons_zero, List.set_cons_succ]
            refine wpAnyH_take (i := 9) (v := ?_) rfl (by kernel_rfl) (by kernel_rfl) (by kernel_rfl) (fun _ _ _ h => h) (Or.inl ⟨by rfl, ?_⟩) (by assumption) ?_
            rotate_left
            · intro w hSw; (try dsimp only at hSw); go_simp; first | done | with_reducible rfl
            simp only [Act.put, List.getElem_toArray, List.getElem_cons_zero, List.getElem_cons_succ, List.setIfInBounds_toArray, List.set_cons_zero, List.set_cons_succ]
            refine wpAnyH_take (i := 10) (v := ?_) rfl (by kernel_rfl) (by kernel_rfl) (by kernel_rfl) (fun _ _ _ h => h) (Or.inl ⟨by rfl, ?_⟩) (by assumption) ?_
            rotate_left
            · intro w hSw; (try dsimp only at hSw); go_simp; first | done | with_reducible rfl
            simp only [Act.put, List.getElem_toArray, List.getElem_cons_zero, List.getElem_cons_succ, List.setIfInBounds_toArray, List.set_cons_zero, List.set_cons_succ]
            refine wpAnyH_take (i := 11) (v := ?_) rfl (by kernel_rfl) (by kernel_rfl) (by kernel_rfl) (fun _ _ _ h => h) (Or.inl ⟨by rfl, ?_⟩) (by assumption) ?_
            rotate_left
            · intro w hSw; (try dsimp only at hSw); go_simp; first | done | with_reducible rfl
            simp only [Act.put, List.getElem_toArray, List.getElem_cons_zero, List.getElem_cons_succ, List.setIfInBounds_toArray, List.set_cons_zero, List.set_cons_succ]
            refine wpAnyH_take (i := 12) (v := ?_) rfl (by kernel_rfl) (by kernel_rfl) (by kernel_rfl) (fun _ _ _ h => h) (Or.inl ⟨by rfl, ?_⟩) (by assumption) ?_
            rotate_left
            · intro w hSw; (try dsimp only at hSw); go_simp; first | done | with_reducible rfl
            simp only [Act.put, List.getElem_toArray, List.getElem_cons_zero, List.getElem_cons_succ, List.setIfInBounds_toArray, List.set_cons_zero, List.set_cons_succ]
            refine wpAnyH_take (i := 13) (v := ?_) rfl (by kernel_rfl) (by kernel_rfl) (by kernel_rfl) (fun _ _ _ h => h) (Or.inl ⟨by rfl, ?_⟩) (by assumption) ?_
            rotate_left
            · intro w hSw; (try dsimp only at hSw); go_simp; first | done | with_reducible rfl
            simp only [Act.put, List.getElem_toArray, List.getElem_cons_zero, List.getElem_cons_succ, List.setIfInBounds_toArray, List.set_cons_zero, List.set_cons_succ]
            refine wpAnyH_take (i := 14) (v := ?_) rfl (by kernel_rfl) (by kernel_rfl) (by kernel_rfl) (fun _ _ _ h => h) (Or.inl ⟨by rfl, ?_⟩) (by assumption) ?_
            rotate_left
            · intro w hSw; (try dsimp only at hSw); go_simp; first | done | with_reducible rfl
            simp only [Act.put, List.getElem_toArray, List.getElem_cons_zero, List.getElem_cons_succ, List.setIfInBounds_toArray, List.set_cons_zero, List.set_cons_succ]
            refine wpAnyH_take (i := 15) (v := ?_) rfl (by kernel_rfl) (by kernel_rfl) (by kernel_rfl) (fun _ _ _ h => h) (Or.inl ⟨by rfl, ?_⟩) (by assumption) ?_
            rotate_left
            · intro w hSw; (try dsimp only at hSw); go_simp; first | done | with_reducible rfl
            simp only [Act.put, List.getElem_toArray, List.getElem_cons_zero, List.getElem_cons_succ, List.setIfInBounds_toArray, List.set_cons_zero, List.set_cons_succ]
            refine wpAnyH_take (i := 16) (v := ?_) rfl (by kernel_rfl) (by kernel_rfl) (by kernel_rfl) (fun _ _ _ h => h) (Or.inl ⟨by rfl, ?_⟩) (by assumption) ?_
            rotate_left
            · intro w hSw; (try dsimp only at hSw); go_simp; first | done | with_reducible rfl
            simp only [Act.put, List.getElem_toArray, List.getElem_cons_zero, List.getElem_cons_succ, List.setIfInBounds_toArray, List.set_cons_zero, List.set_cons_succ]
            refine wpAnyH_take (i := 17) (v := ?_) rfl (by kernel_rfl) (by kernel_rfl) (by kernel_rfl) (fun _ _ _ h => h) (Or.inl ⟨by rfl, ?_⟩) (by assumption) ?_
            rotate_left
            · intro w hSw; (try dsimp only at hSw); go_simp; first | done | with_reducible rfl
            simp only [Act.put, List.getElem_toArray, List.getElem_cons_zero, List.getElem_cons_succ, List.setIfInBounds_toArray, List.set_cons_zero, List.set_cons_succ]
            refine wpAnyH_take (i := 18) (v := ?_) rfl (by kernel_rfl) (by kernel_rfl) (by kernel_rfl) (fun _ _ _ h => h) (Or.inl ⟨by rfl, ?_⟩) (by assumption) ?_
            rotate_left
            · intro w hSw; (try dsimp only at hSw); go_simp; first | done | with_reducible rfl
            simp only [Act.put, List.getElem_toArray, List.getElem_cons_zero, List.getElem_cons_succ, List.setIfInBounds_toArray, List.set_cons_zero, List.set_cons_succ]
            refine wpAnyH_take (i := 19) (v := ?_) rfl (by kernel_rfl) (by kernel_rfl) (by kernel_rfl) (fun _ _ _ h => h) (Or.inl ⟨by rfl, ?_⟩) (by assumption) ?_
            rotate_left
            · intro w hSw; (try dsimp only at hSw); go_simp; first | done | with_reducible rfl
            simp only [Act.put, List.getElem_toArray, List.getElem_cons_zero, List.getElem_cons_succ, List.setIfInBounds_toArray, List.set_cons_zero, List.set_cons_succ]
            refine wpAnyH_take (i := 20) (v := ?_) rfl (by kernel_rfl) (by kernel_rfl) (by kernel_rfl) (fun _ _ _ h => h) (Or.inl ⟨by rfl, ?_⟩) (by assumption) ?_
            rotate_left
            · intro w hSw; (try dsimp only at hSw); go_simp; first | done | with_reducible rfl
            simp only [Act.put, List.getElem_toArray, List.getElem_cons_zero, List.getElem_cons_succ, List.setIfInBounds_toArray, List.set_cons_zero, List.set_cons_succ]
            refine wpAnyH_take (i := 21) (v := ?_) rfl (by kernel_rfl) (by kernel_rfl) (by kernel_rfl) (fun _ _ _ h => h) (Or.inl ⟨by rfl, ?_⟩) (by assumption) ?_
            rotate_left
            · intro w hSw; (try dsimp only at hSw); go_simp; first | done | with_reducible rfl
            simp only [Act.put, List.getElem_toArray, List.getElem_cons_zero, List.getElem_cons_succ, List.setIfInBounds_toArray, List.set_cons_zero, List.set_cons_succ]
            refine wpAnyH_take (i := 22) (v := ?_) rfl (by kernel_rfl) (by kernel_rfl) (by kernel_rfl) (fun _ _ _ h => h) (Or.inl ⟨by rfl, ?_⟩) (by assumption) ?_
            rotate_left
            · intro w hSw; (try dsimp only at hSw); go_simp; first | done | with_reducible rfl
            simp only [Act.put, List.getElem_toArray, List.getElem_cons_zero, List.getElem_cons_succ, List.setIfInBounds_toArray, List.set_cons_zero, List.set_cons_succ]
            refine wpAnyH_take (i := 23) (v := ?_) rfl (by kernel_rfl) (by kernel_rfl) (by kernel_rfl) (fun _ _ _ h => h) (Or.inl ⟨by rfl, ?_⟩) (by assumption) ?_
            rotate_left
            · intro w hSw; (try dsimp only at hSw); go_simp; first | done | with_reducible rfl
            simp only [Act.put, List.getElem_toArray, List.getElem_cons_zero, List.getElem_cons_succ, List.setIfInBounds_toArray, List.set_cons_zero, List.set_cons_succ]
            refine wpAnyH_ready (rs := [24]) (by kernel_rfl) (by simp) ?_
            refine AllReadyH.cons rfl (fun K hK => ?_) AllReadyH.nil
            go_simp
            (go_at_call 89; go_must (refine HNX.out.mono ?_; rintro e6 w6 ⟨vs2, b2, rfl, hin6, hs6, hf6⟩; have HB6 := HKB.out _ hs6.ext; have hc := cmp_any (b := b2) (vs := vs2) (i := jf) (j := vs2.idxOf (e + 1)) (by rw [HS.out.2.2, ← idxOf_prefix hs6.pre HS.out.2.1]; exact idxOf_get (hs6.pre.subset HS.out.2.1)) (idxOf_get hin6) hs6.inv; rw [hs6.p, HR.out.2.2.2.2.2.2.2.2.2.p] at hc; have HC6 := Sealed.mk hc; have H6 := Sealed.mk (And.intro hs6 hf6); clear hc hs6 hf6 hin6)); try go_simp
            refine hK.out _ _ ?_ (fun hHeld => ?_)
            · exact HB6
            clear hK K
            try simp only [Act.put, List.getElem_toArray, List.getElem_cons_zero, List.getElem_cons_succ, List.setIfInBounds_toArray, List.set_cons_zero, List.set_cons_succ]
            refine wpAnyH_ready (rs := [25]) (by kernel_rfl) (by simp) ?_
            refine AllReadyH.cons rfl (fun K hK => ?_) AllReadyH.nil
            go_simp
            (go_at_call 78; go_must (refine HC6.out.mono ?_; rintro e7 w7 ⟨rfl, hcs⟩; have HB7 := HKB.out _ (H6.out.1.trans (cs_step H6.out.1.inv hcs).1).ext; have H7 := Sealed.mk hcs; clear hcs)); try go_simp
            refine hK.out _ _ ?_ (fun hHeld => ?_)
            · exact HB7
            clear hK K
            try simp only [Act.put, List.getElem_toArray, List.getElem_cons_zero, List.getElem_cons_succ, List.setIfInBounds_toArray, List.set_cons_zero, List.set_cons_succ]
            refine wpAnyH_take (i := 26) (v := ?_) rfl (by kernel_rfl) (by kernel_rfl) (by kernel_rfl) (fun _ _ _ h => h) (Or.inl ⟨by rfl, ?_⟩) (by assumption) ?_
            rotate_left
            · intro w hSw; (try dsimp only at hSw); go_simp; first | done | with_reducible rfl
            simp only [Act.put, List.getElem_toArray, List.getElem_cons_zero, List.getElem_cons_succ, List.setIfInBounds_toArray, List.set_cons_zero, List.set_cons_succ]
            refine wpAnyH_take (i := 27) (v := ?_) rfl (by kernel_rfl) (by kernel_rfl) (by kernel_rfl) (fun _ _ _ h => h) (Or.inl ⟨by rfl, ?_⟩) (by assumption) ?_
            rotate_left
            · intro w hSw; (try dsimp only at hSw); go_simp; first | done | with_reducible rfl
            simp only [Act.put, List.getElem_toArray, List.getElem_cons_zero, List.getElem_cons_succ, List.setIfInBounds_toArray, List.set_cons_zero, List.set_cons_succ]
            refine wpAnyH_take (i := 28) (v := ?_) rfl (by kernel_rfl) (by kernel_rfl) (by kernel_rfl) (fun _ _ _ h => h) (Or.inl ⟨by rfl, ?_⟩) (by assumption) ?_
            rotate_left
            · intro w hSw; (try dsimp only at hSw); go_simp; first | done | with_reducible rfl
            simp only [Act.put, List.getElem_toArray, List.getElem_cons_zero, List.getElem_cons_succ, List.setIfInBounds_toArray, List.set_cons_zero, List.set_cons_succ]
            refine wpAnyH_done (by kernel_rfl) ?_ _
            refine NoPanic.normal ?_
            have hKI := HKI.out
            subst hKI
            all_goals
              go_wp2_with fail
              go_meet
              case rel =>
                obtain ⟨c1, c2⟩ := cs_step H6.out.1.inv H7.out
                have e1 := (HR.out.1 1)
                refine ⟨vs2, b2, ?_, (e1.trans H6.out.1).trans c1, ((HR.out.2.1 1).trans H6.out.2 e1.ext.size (fun _ h => h.elim)).trans c2 (Nat.le_trans e1.ext.size H6.out.1.ext.size) (fun _ h => h.elim)⟩
                congr 1
                have hiff : bad = true ↔ ¬ (e + 1 < f) := by
                  rw [HR.out.2.2.2.2.1]
                  constructor
                  · intro hb hlt
                    refine hb fun t htt => ?_
                    rw [HR.out.2.2.2.1] at htt
                    obtain rfl := Option.some.inj htt
                    refine ⟨by have := HNEG.out; simp only; omega, fun s _ hss => ?_⟩
                    rw [show k - 1 = km by have := HKM.out; omega, HS.out.1] at hss
                    obtain rfl := Option.some.inj hss
                    exact hlt
                  · intro hb hg
                    exact hb ((hg _ HR.out.2.2.2.1).2 (m0, f) (by have := HKM.out; omega) (by rw [show k - 1 = km by have := HKM.out; omega]; exact HS.out.1))
                have hsg : (sg (f - (e + 1)) ≤ 0) ↔ ¬ (e + 1 < f) := by
                  unfold sg
                  split
                  · simp; omega
                  · split
                    · simp; omega
                    · simp; omega
                cases hb : bad with
                | true => exact decide_eq_true (hsg.2 (hiff.1 hb))
                | false => exact decide_eq_false (fun h => by have := hiff.2 (hsg.1 h); rw [hb] at this; cases this)
      case rest =>
        obtain ⟨vs2, b2, rfl, hst2, hfs2⟩ := hcut
        have HC := Sealed.mk (And.intro hst2 hfs2); clear hst2 hfs2
        cases hb : bad with
        | true =>
          subst hb
          clear k1 c0 c1 h1 h2 c0w c1w k1w
          go_wp2_with fail
          refine bodyPost_ret (v := .bool false) (by simp [results, Try.results54, go_sem]) rfl ⟨vs2, b2, false, rfl, ⟨fun h => by simp at h, fun hf => absurd (hf k) (HR.out.2.2.2.2.1.1 (by trivial))⟩, HC.out.1, HC.out.2⟩
        | false =>
          subst hb
          clear k1 c0 c1 h1 h2 c0w c1w k1w
          go_wp2_with fail
          go_roundg (n - (k + 1))
          case measure => omega
          case rel =>
            refine ⟨k + 1, vs2, b2, rfl, by omega, by push_cast; rfl, HC.out.1, HC.out.2, fun i hi => ?_⟩
            by_cases hik : i < k
            · exact HR.out.2.2.1 i hik
            · have : i = k := by omega
              subst this
              apply Classical.byContradiction
              intro hh
              have := HR.out.2.2.2.2.1.2 hh
              simp at this
    · have hkk : k = l.length := by have := H.out.2.2.2.2.2; omega
      have hall : FormedZ l := fun i t ht => hgood i (by rw [hkk]; exact (List.getElem?_eq_some_iff.1 ht).1) t ht
      have HF := Sealed.mk (And.intro hall (And.intro hst hfs)); clear hall hst hfs hgood hkk
      go_wp2_with fail
      refine bodyPost_ret (v := .bool true) (by simp [results, Try.results54, go_sem]) rfl ⟨vs1, b1, true, rfl, ⟨fun _ => HF.out.1, fun _ => rfl⟩, HF.out.2.1, HF.out.2.2⟩
end Go.Proofs.Ytgchfbfgjanaiaa

namespace Go.Proofs.Ytgchfbfgjanaiaa
open Go.RowKit Sr
theorem two2_twoN {n : Nat} (hn : n < 65536) (l : List Int) : two2 (twoN n ++ l) = ((n : Int), l) := by
  simp only [twoN, List.cons_append, List.nil_append, two2]
  congr 1
  omega
noncomputable def allP (x : Int) : List Int := pvs x ++ [x]
theorem allP_length (x : Int) : (allP x).length = weight x := by simp [allP, pvs, weight]
noncomputable def sufN (x : Int) (j : Nat) : List Int := ((allP x).drop j).flatMap fun y => formN (enc (pvs x) y)
theorem bytesN_suf (x : Int) : bytesN x = twoN (weight x) ++ sufN x 0 := by
  unfold bytesN sufN allP pvs
  simp [List.flatMap_map]
theorem sufN_at {x y : Int} {j : Nat} (h : (allP x)[j]? = some y) : sufN x j = formN (enc (pvs x) y) ++ sufN x (j + 1) := by
  obtain ⟨hj, rfl⟩ := List.getElem?_eq_some_iff.1 h
  unfold sufN
  rw [List.drop_eq_getElem_cons hj, List.flatMap_cons]
theorem allP_wl {x y : Int} (hx : Allowed x) (h : y ∈ allP x) : wl y ≤ 300 := by
  rcases List.mem_append.1 h with h | h
  · obtain ⟨e, he, rfl⟩ := List.mem_map.1 h
    exact hx.2.1 e (mem_plist.1 he)
  · simp at h; subst h; exact hx.1
theorem allP_ahead {x y : Int} {j : Nat} (h : (allP x)[j]? = some y) {e : Nat} (he : e ∈ exps y) : (pvs x).idxOf (e : Int) < j ∧ (allP x)[(pvs x).idxOf (e : Int)]? = some (e : Int) := by
  have key : (plist x).idxOf e < j ∧ (plist x)[(plist x).idxOf e]? = some e := by
    unfold allP pvs at h
    by_cases hj : j < (plist x).length
    · rw [List.getElem?_append_left (by simpa using hj), List.getElem?_map] at h
      obtain ⟨f, hf, rfl⟩ := Option.map_eq_some_iff.1 h
      have hk := part_ahead hf he
      have hi := List.idxOf_lt_length_of_mem hk
      rw [idxOf_take hk] at hi
      have hm := List.idxOf_lt_length_of_mem (List.mem_of_mem_take hk)
      exact ⟨by simp at hi; omega, by rw [List.getElem?_eq_getElem hm]; simp⟩
    · rw [List.getElem?_append_right (by simpa using hj)] at h
      have h0 : j - ((plist x).map fun e : Nat => (e : Int)).length = 0 := by
        have := (List.getElem?_eq_some_iff.1 h).1
        simp at this ⊢; omega
      rw [h0] at h
      simp at h
      subst h
      have hm : e ∈ plist x := mem_plist.2 (.here he)
      have hi := List.idxOf_lt_length_of_mem hm
      exact ⟨by omega, by rw [List.getElem?_eq_getElem hi]; simp⟩
  rw [pvs_idxOf]
  refine ⟨key.1, ?_⟩
  unfold allP
  have hl := (List.getElem?_eq_some_iff.1 key.2).1
  rw [List.getElem?_append_left (by simp [pvs]; exact hl)]
  unfold pvs
  rw [List.getElem?_map, key.2]; rfl
def Tr (l0 : List Int) (cnt : Nat) (nums left : List Int) : Prop := ∀ x, Allowed x → bytesN x = l0 → cnt = weight x ∧ nums = (allP x).take nums.length ∧ left = sufN x nums.length
def TrK (l0 : List Int) (cnt : Nat) (nums : List Int) (n k : Nat) (tl : List (Bool × Int)) (left : List Int) : Prop :=
  ∀ x, Allowed x → bytesN x = l0 → cnt = weight x ∧ nums = (allP x).take nums.length ∧ ∃ y, (allP x)[nums.length]? = some y ∧ n = wl y ∧ tl = ((form y).take k).map (fun t : T => (t.1, (t.2 : Int))) ∧ left = termsN ((enc (pvs x) y).drop k) ++ sufN x (nums.length + 1)
theorem tr_start {l0 : List Int} : (∃ x, Allowed x ∧ bytesN x = l0) → 1 ≤ (two2 l0).1 ∧ (two2 l0).1 ≤ 2000 := by
  rintro ⟨x, hx, rfl⟩
  have h := hx.2.2.1
  have h1 : 1 ≤ weight x := by unfold weight; omega
  rw [bytesN_suf, two2_twoN (by omega)]
  simp only
  omega
theorem tr_zero (l0 : List Int) : Tr l0 (two2 l0).1.toNat [] (two2 l0).2 := by
  rintro x hx rfl
  have h := hx.2.2.1
  rw [bytesN_suf, two2_twoN (by omega)]
  exact ⟨by simp, by simp, rfl⟩
theorem Tr.part {l0 : List Int} {cnt : Nat} {nums left : List Int} (h : Tr l0 cnt nums left) (hl : nums.length < cnt) : TrK l0 cnt nums (two2 left).1.toNat 0 [] (two2 left).2 ∧ ((∃ x, Allowed x ∧ bytesN x = l0) → 0 ≤ (two2 left).1 ∧ (two2 left).1 ≤ 300) := by
  have key : ∀ x, Allowed x → bytesN x = l0 → cnt = weight x ∧ nums = (allP x).take nums.length ∧ ∃ y, (allP x)[nums.length]? = some y ∧ wl y ≤ 300 ∧ two2 left = ((wl y : Int), termsN (enc (pvs x) y) ++ sufN x (nums.length + 1)) := by
    intro x hx hb
    obtain ⟨h1, h2, h3⟩ := h x hx hb
    obtain ⟨y, hy⟩ : ∃ y, (allP x)[nums.length]? = some y := ⟨_, List.getElem?_eq_getElem (by rw [allP_length]; omega)⟩
    have hw := allP_wl hx (List.mem_of_getElem? hy)
    refine ⟨h1, h2, y, hy, hw, ?_⟩
    have he : (enc (pvs x) y).length = wl y := by simp [enc, wl]
    rw [h3, sufN_at hy]
    unfold formN
    rw [List.append_assoc, two2_twoN (by omega), he]
  refine ⟨fun x hx hb => ?_, fun ⟨x, hx, hb⟩ => ?_⟩
  · obtain ⟨h1, h2, y, hy, hw, ht⟩ := key x hx hb
    rw [ht]
    exact ⟨h1, h2, y, hy, by simp, by simp, by simp⟩
  · obtain ⟨h1, h2, y, hy, hw, ht⟩ := key x hx hb
    rw [ht]
    simp only
    omega
theorem TrK.term {l0 : List Int} {cnt : Nat} {nums : List Int} {n k : Nat} {tl : List (Bool × Int)} {left : List Int} (h : TrK l0 cnt nums n k tl left) (hk : k < n) :
    (∃ x, Allowed x ∧ bytesN x = l0) → ∃ s a, ∃ at_ : Nat, ∃ l' z, left = s :: l' ∧ 2 ≤ l'.length ∧ (s = 0 ∨ s = 1) ∧ two2 l' = ((at_ : Int), a) ∧ nums[at_]? = some z := by
  rintro ⟨x, hx, hb⟩
  obtain ⟨h1, h2, y, hy, hn, ht, hl⟩ := h x hx hb
  obtain ⟨t, htk⟩ : ∃ t, (form y)[k]? = some t := ⟨_, List.getElem?_eq_getElem (by unfold wl at hn; omega)⟩
  have hte : (enc (pvs x) y)[k]? = some (t.1, (pvs x).idxOf (t.2 : Int)) := by simp [enc, htk]
  obtain ⟨hq, hq2⟩ := allP_ahead hy (mem_exps.2 ⟨t, List.mem_of_getElem? htk, rfl⟩)
  have hqw : (pvs x).idxOf (t.2 : Int) < 65536 := by
    have := (List.getElem?_eq_some_iff.1 hy).1
    rw [allP_length] at this
    have := hx.2.2.1
    omega
  obtain ⟨hkl, hke⟩ := List.getElem?_eq_some_iff.1 hte
  rw [List.drop_eq_getElem_cons hkl, hke] at hl
  refine ⟨if t.1 then 1 else 0, termsN ((enc (pvs x) y).drop (k + 1)) ++ sufN x (nums.length + 1), (pvs x).idxOf (t.2 : Int), twoN ((pvs x).idxOf (t.2 : Int)) ++ (termsN ((enc (pvs x) y).drop (k + 1)) ++ sufN x (nums.length + 1)), (t.2 : Int), ?_, by simp [twoN], by split <;> simp, two2_twoN hqw _, ?_⟩
  · rw [hl]
    simp [termsN, termN]
  · rw [h2, List.getElem?_take_of_lt hq]
    exact hq2
theorem TrK.next {l0 : List Int} {cnt : Nat} {nums : List Int} {n k : Nat} {tl : List (Bool × Int)} {s : Int} {l' : List Int} (h : TrK l0 cnt nums n k tl (s :: l')) (hk : k < n) {q : Nat} {z : Int} (hq : (two2 l').1 = (q : Int)) (hz : nums[q]? = some z) :
    TrK l0 cnt nums n (k + 1) (tl ++ [(decide (s = 1), z)]) (two2 l').2 := by
  intro x hx hb
  obtain ⟨h1, h2, y, hy, hn, ht, hl⟩ := h x hx hb
  obtain ⟨t, htk⟩ : ∃ t, (form y)[k]? = some t := ⟨_, List.getElem?_eq_getElem (by unfold wl at hn; omega)⟩
  have hte : (enc (pvs x) y)[k]? = some (t.1, (pvs x).idxOf (t.2 : Int)) := by simp [enc, htk]
  obtain ⟨hq1, hq2⟩ := allP_ahead hy (mem_exps.2 ⟨t, List.mem_of_getElem? htk, rfl⟩)
  have hqw : (pvs x).idxOf (t.2 : Int) < 65536 := by
    have := (List.getElem?_eq_some_iff.1 hy).1
    rw [allP_length] at this
    have := hx.2.2.1
    omega
  obtain ⟨hkl, hke⟩ := List.getElem?_eq_some_iff.1 hte
  rw [List.drop_eq_getElem_cons hkl, hke] at hl
  have e : termsN ((t.1, (pvs x).idxOf (t.2 : Int)) :: (enc (pvs x) y).drop (k + 1)) ++ sufN x (nums.length + 1) = (if t.1 then 1 else 0) :: (twoN ((pvs x).idxOf (t.2 : Int)) ++ (termsN ((enc (pvs x) y).drop (k + 1)) ++ sufN x (nums.length + 1))) := by simp [termsN, termN]
  rw [e] at hl
  obtain ⟨hs, hl'⟩ := List.cons.inj hl
  subst hl'
  rw [two2_twoN hqw] at hq ⊢
  simp only at hq
  have hqe : q = (pvs x).idxOf (t.2 : Int) := by omega
  have hzt : z = (t.2 : Int) := by
    rw [hqe, h2, List.getElem?_take_of_lt hq1, hq2] at hz
    exact (Option.some.inj hz).symm
  refine ⟨h1, h2, y, hy, hn, ?_, rfl⟩
  rw [take_snoc htk, List.map_append, ht, hzt]
  congr 2
  simp only [List.map_cons, List.map_nil]
  congr 2
  rw [hs]
  cases t.1 <;> simp
def zT (l : List (Bool × Int)) : List T := l.map fun t => (t.1, t.2.toNat)
def zval (l : List (Bool × Int)) : Int := val (zT l)
theorem under_gap : ∀ (l : List T) (n : Nat), Under n l → ∀ i s t, l[i]? = some s → l[i + 1]? = some t → t.2 + 1 < s.2
  | [], _, _, i, s, t, h, _ => by simp at h
  | u :: l, n, ⟨_, h2, h3⟩, 0, s, t, hs, ht => by
    simp at hs ht
    subst hs
    cases l with
    | nil => simp at ht
    | cons v l =>
      simp at ht
      subst ht
      have := h2.1
      omega
  | u :: l, n, ⟨_, h2, _⟩, i + 1, s, t, hs, ht => under_gap l _ h2 i s t (by simpa using hs) (by simpa using ht)
theorem gap_under : ∀ (l : List T), (∀ i s t, l[i]? = some s → l[i + 1]? = some t → t.2 + 1 < s.2) → Sr.Form l
  | [], _ => ⟨0, trivial⟩
  | [u], _ => ⟨u.2 + 1, by simp [Under]⟩
  | u :: v :: l, h => by
    obtain ⟨n, hn⟩ := gap_under (v :: l) fun i s t hs ht => h (i + 1) s t (by simpa using hs) (by simpa using ht)
    have h0 := h 0 u v rfl rfl
    refine ⟨u.2 + 1, by omega, ⟨by omega, hn.2⟩, fun _ => by omega⟩
theorem formed_form {l : List (Bool × Int)} (h : FormedZ l) : form (zval l) = zT l := by
  refine form_of (gap_under _ fun i s t hs ht => ?_) rfl
  unfold zT at hs ht
  rw [List.getElem?_map] at hs ht
  obtain ⟨s', hs', rfl⟩ := Option.map_eq_some_iff.1 hs
  obtain ⟨t', ht', rfl⟩ := Option.map_eq_some_iff.1 ht
  obtain ⟨h1, h2⟩ := h (i + 1) t' ht'
  have h3 := h2 s' (by omega) (by simpa using hs')
  have h4 := (h i s' hs').1
  simp only
  omega
theorem formed_of (y : Int) : FormedZ ((form y).map fun t : T => (t.1, (t.2 : Int))) ∧ zval ((form y).map fun t : T => (t.1, (t.2 : Int))) = y := by
  constructor
  · intro i t ht
    rw [List.getElem?_map] at ht
    obtain ⟨t', ht', rfl⟩ := Option.map_eq_some_iff.1 ht
    refine ⟨by simp only; omega, fun s h0 hs => ?_⟩
    rw [List.getElem?_map] at hs
    obtain ⟨s', hs', rfl⟩ := Option.map_eq_some_iff.1 hs
    obtain ⟨n, hu⟩ := form_form y
    have := under_gap _ _ hu (i - 1) s' t' hs' (by rw [show i - 1 + 1 = i by omega]; exact ht')
    simp only
    omega
  · unfold zval zT
    rw [List.map_map]
    have : ((form y).map fun t : T => (t.1, (t.2 : Int))).map (fun t : Bool × Int => (t.1, t.2.toNat)) = form y := by
      rw [List.map_map]
      conv => rhs; rw [← List.map_id (form y)]
      exact List.map_congr_left fun t _ => by simp
    rw [List.map_map] at this
    rw [this, val_form]
theorem TrK.done {l0 : List Int} {cnt : Nat} {nums : List Int} {n : Nat} {tl : List (Bool × Int)} {left : List Int} (h : TrK l0 cnt nums n n tl left) : ((∃ x, Allowed x ∧ bytesN x = l0) → FormedZ tl) ∧ Tr l0 cnt (nums ++ [zval tl]) left := by
  have key : ∀ x, Allowed x → bytesN x = l0 → cnt = weight x ∧ nums = (allP x).take nums.length ∧ ∃ y, (allP x)[nums.length]? = some y ∧ tl = (form y).map (fun t : T => (t.1, (t.2 : Int))) ∧ left = sufN x (nums.length + 1) := by
    intro x hx hb
    obtain ⟨h1, h2, y, hy, hn, ht, hl⟩ := h x hx hb
    have e1 : (form y).take n = form y := by rw [hn]; unfold wl; exact List.take_length
    have e2 : (enc (pvs x) y).drop n = [] := List.drop_eq_nil_of_le (by rw [hn]; simp [enc, wl])
    rw [e1] at ht
    rw [e2] at hl
    exact ⟨h1, h2, y, hy, ht, by simpa [termsN] using hl⟩
  refine ⟨fun ⟨x, hx, hb⟩ => ?_, fun x hx hb => ?_⟩
  · obtain ⟨h1, h2, y, hy, ht, hl⟩ := key x hx hb
    rw [ht]
    exact (formed_of y).1
  · obtain ⟨h1, h2, y, hy, ht, hl⟩ := key x hx hb
    rw [ht, (formed_of y).2]
    refine ⟨h1, ?_, by rw [List.length_append]; exact hl⟩
    rw [List.length_append]
    simp only [List.length_cons, List.length_nil]
    rw [take_snoc hy, ← h2]
theorem Tr.last {l0 : List Int} {cnt : Nat} {nums left : List Int} (h : Tr l0 cnt nums left) (hl : nums.length = cnt) {x : Int} (hx : Allowed x) (hb : bytesN x = l0) {y : Int} (hy : nums[cnt - 1]? = some y) : y = x := by
  obtain ⟨h1, h2, _⟩ := h x hx hb
  have e : (allP x).take nums.length = allP x := List.take_of_length_le (by rw [allP_length]; omega)
  rw [e] at h2
  have hc : cnt - 1 = (pvs x).length := by
    have := allP_length x
    unfold allP at this
    simp at this
    omega
  rw [h2, hc] at hy
  unfold allP at hy
  rw [List.getElem?_append_right (Nat.le_refl _)] at hy
  simpa using hy.symm
theorem twoN_range {n : Nat} (h : n < 65536) : ∀ v ∈ twoN n, 0 ≤ v ∧ v < 256 := by
  intro v hv
  simp only [twoN, List.mem_cons, List.not_mem_nil, or_false] at hv
  rcases hv with rfl | rfl <;> omega
theorem formN_range {l : List (Bool × Nat)} (hl : l.length < 65536) (ht : ∀ t ∈ l, t.2 < 65536) : ∀ v ∈ formN l, 0 ≤ v ∧ v < 256 := by
  intro v hv
  unfold formN at hv
  rcases List.mem_append.1 hv with hv | hv
  · exact twoN_range hl v hv
  · unfold termsN at hv
    obtain ⟨t, htl, hv⟩ := List.mem_flatMap.1 hv
    unfold termN at hv
    rcases List.mem_cons.1 hv with rfl | hv
    · split <;> omega
    · exact twoN_range (ht t htl) v hv
theorem bytesN_range {x : Int} (hx : Allowed x) : ∀ v ∈ bytesN x, 0 ≤ v ∧ v < 256 := by
  have hw := hx.2.2.1
  have hpl : (pvs x).length ≤ 1999 := by unfold weight at hw; simp [pvs]; omega
  intro v hv
  rw [bytesN_suf] at hv
  rcases List.mem_append.1 hv with hv | hv
  · exact twoN_range (by omega) v hv
  · unfold sufN at hv
    obtain ⟨y, hy, hv⟩ := List.mem_flatMap.1 hv
    have hya : y ∈ allP x := List.mem_of_mem_drop hy
    obtain ⟨j, hj⟩ := List.getElem?_of_mem hya
    refine formN_range ?_ (fun t ht => ?_) v hv
    · have := allP_wl hx hya
      unfold wl at this
      simp [enc]
      omega
    · obtain ⟨s, hs, rfl⟩ := List.mem_map.1 ht
      have := (allP_ahead hj (mem_exps.2 ⟨s, hs, rfl⟩)).1
      have hjl := (List.getElem?_eq_some_iff.1 hj).1
      rw [allP_length] at hjl
      simp only
      omega
theorem bytesN_length {x : Int} (hx : Allowed x) : (bytesN x).length ≤ 3000000 := by
  have h1 := partsN_length hx (plist x).length
  rw [← partsN_all, List.length_append, formN_length]
  have h2 := hx.1
  simp [enc]
  omega
end Go.Proofs.Ytgchfbfgjanaiaa
