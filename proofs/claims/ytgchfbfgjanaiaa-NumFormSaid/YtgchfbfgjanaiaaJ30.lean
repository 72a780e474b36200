/- (num.N).Terms -/
import Derived.Test.YtgchfbfgjanaiaaJ29
import Derived.Test.YtgchfbfgjanaiaaJ26
set_option linter.unusedSimpArgs false
set_option linter.unusedVariables false
namespace Go.Proofs.Ytgchfbfgjanaiaa
open Go.RowKit Sr
theorem el_Term : ElemT Try.prog 41 47 2 (.agg #[.bool false, .pointer none]) 16 := ⟨Try.underlying41, by kernel_rfl, rfl, by decide, by decide⟩
def trow : List (Bool × Option Addr) → List Value
  | [] => []
  | t :: l => .bool t.1 :: .pointer t.2 :: trow l
theorem trow_length : ∀ l, (trow l).length = l.length * 2
  | [] => rfl
  | t :: l => by simp [trow, trow_length l]; omega
theorem trow_append : ∀ a b, trow (a ++ b) = trow a ++ trow b
  | [], b => rfl
  | t :: a, b => by simp [trow, trow_append a b]
theorem trow_at : ∀ (l : List (Bool × Option Addr)) (i : Nat) (t : Bool × Option Addr), l[i]? = some t → (trow l)[i * 2]? = some (.bool t.1) ∧ (trow l)[i * 2 + 1]? = some (.pointer t.2)
  | [], i, t, h => by simp at h
  | s :: l, 0, t, h => by simp at h; subst h; simp [trow]
  | s :: l, i + 1, t, h => by
    have := trow_at l i t (by simpa using h)
    rw [show (i + 1) * 2 = i * 2 + 1 + 1 by omega]
    simpa [trow] using this
theorem own_apart {w : World} {B t s n : Nat} {v : Value} {xs : List Value} (h : w.ownsRow B t s v n xs) (ht : t ≠ 98 ∧ t ≠ 96 ∧ t ≠ 128) : Apart w (fun q => v.ownBlock = some q) := by
  intro k hk t' ⟨cs, fz, e⟩
  rcases h.2 with ⟨rfl, _⟩ | ⟨g, cap, cur, rfl, _, hg, _⟩
  · simp [Value.ownBlock] at hk
  · have : g = k := Option.some.inj hk
    subst this
    rw [hg] at e
    simp only [Option.some.injEq, Obj.cells.injEq] at e
    rw [← e.2.1]
    exact ht
structure TermsOwn (w : World) (B : Nat) (v : Value) (l : List (Bool × Int)) (ts : List (Bool × Option Addr)) : Prop where
  own : w.ownsRow B 47 2 v l.length (trow ts)
  len : ts.length = l.length
  num : ∀ (i : Nat) (t : Bool × Option Addr) (s : Bool × Int), ts[i]? = some t → l[i]? = some s → t.1 = s.1 ∧ NumIs w (.agg #[.pointer t.2]) s.2
theorem TermsOwn.at_ {w : World} {B : Nat} {v : Value} {l : List (Bool × Int)} {ts : List (Bool × Option Addr)} (h : TermsOwn w B v l ts) (hl : l.length ≤ 100000) : TermsAt w v l := by
  obtain ⟨a, c, rfl⟩ := own_slice h.own
  refine ⟨hl, fun b hb => (h.own.lt b hb).2, a, c, rfl, ?_, fun hne => ?_⟩
  · rcases h.own.2 with ⟨e, e0⟩ | ⟨g, cap, cur, e, _, _, hn', _⟩
    · obtain ⟨-, h1, -⟩ := Value.slice.inj e; omega
    · obtain ⟨-, -, rfl⟩ := Value.slice.inj e; exact hn'
  · obtain ⟨g, cap, e1⟩ := own_form h.own (List.length_pos_iff.2 hne)
    obtain ⟨rfl, -, rfl⟩ := Value.slice.inj e1
    refine ⟨g, 0, rfl, fun i s hs => ?_⟩
    have hi : i < ts.length := by rw [h.len]; exact (List.getElem?_eq_some_iff.1 hs).1
    have ht : ts[i]? = some ts[i] := List.getElem?_eq_getElem hi
    obtain ⟨h1, h2⟩ := h.num i _ s ht hs
    obtain ⟨d0, d1⟩ := trow_at ts i _ ht
    rw [Nat.zero_add]
    exact ⟨ts[i].2, by rw [← h1]; exact own_cell h.own rfl d0, own_cell h.own rfl d1, h2⟩
theorem TermsOwn.keep {w w1 : World} {B : Nat} {v : Value} {l : List (Bool × Int)} {ts : List (Bool × Option Addr)} {M : Nat → Prop} (h : TermsOwn w B v l ts) (e : Ext M w w1) (ha : Apart w M) (hM : ∀ q, v.ownBlock = some q → ¬ M q) : TermsOwn w1 B v l ts :=
  ⟨own_ext h.own e hM, h.len, fun i t s ht hs => ⟨(h.num i t s ht hs).1, (h.num i t s ht hs).2.apart ha e⟩⟩
theorem TermsOwn.below {w w1 : World} {B : Nat} {v : Value} {l : List (Bool × Int)} {ts : List (Bool × Option Addr)} (h : TermsOwn w B v l ts) (e : Below w.heap.size w w1) : TermsOwn w1 B v l ts :=
  h.keep (Ext.of_below (M := noB) e) (fun _ h => h.elim) (fun _ _ h => h)
theorem TermsOwn.push {w w1 w2 : World} {B n : Nat} {v v' : Value} {l : List (Bool × Int)} {ts : List (Bool × Option Addr)} (h : TermsOwn w B v l ts) {m : Bool} {p : Option Addr} {x : Int} (hb : Below w.heap.size w w1) (hn : n = l.length) (hx : NumIs w1 (.agg #[.pointer p]) x) (hg : w1.grownBy w2 v.ownBlock) (hown : w2.ownsRow B 47 2 v' (n + 1) (trow ts ++ [.bool m, .pointer p])) : TermsOwn w2 B v' (l ++ [(m, x)]) (ts ++ [(m, p)]) := by
  have h1 := h.below hb
  have hx2 : Ext (fun q => v.ownBlock = some q) w1 w2 := ⟨hg.os, hg.tape, hg.output, hg.size, fun q hq hn => hg.block q hq fun e => hn e.symm⟩
  have ha := own_apart h1.own (by decide)
  subst hn
  refine ⟨by rw [List.length_append, trow_append]; exact hown, by simp [h.len], fun i t s ht hs => ?_⟩
  by_cases hi : i < l.length
  · rw [List.getElem?_append_left (by rw [h.len]; exact hi)] at ht
    rw [List.getElem?_append_left hi] at hs
    obtain ⟨a1, a2⟩ := h1.num i t s ht hs
    exact ⟨a1, a2.apart ha hx2⟩
  · rw [List.getElem?_append_right (by rw [h.len]; omega)] at ht
    rw [List.getElem?_append_right (by omega)] at hs
    have h0 : i - l.length = 0 := by
      have := (List.getElem?_eq_some_iff.1 hs).1
      simp at this; omega
    rw [h.len, h0] at ht
    rw [h0] at hs
    simp at ht hs
    subst ht
    subst hs
    exact ⟨rfl, hx.apart ha hx2⟩
noncomputable def termsZ (x : Int) : List (Bool × Int) := (form x).map fun t => (t.1, (t.2 : Int))
theorem termsZ_length (x : Int) : (termsZ x).length = wl x := by simp [termsZ, wl]
set_option maxRecDepth 100000 in
set_option maxHeartbeats 4000000 in
theorem Terms_any {w : World} {u : Value} {x : Int} (h : NumIs w u x) : Calls Try.prog 41 #[u] w fun e w' => ∃ a c ts, e = .returned (.slice a (wl x) c) ∧ TermsOwn w' w.heap.size (.slice a (wl x) c) (termsZ x) ts ∧ Below w.heap.size w w' := by
  obtain ⟨p, rfl⟩ := h.ptr
  obtain ⟨W1, hW1⟩ : ∃ W1, W1 = w.alloc (.cells #[.pointer p] 30) := ⟨_, rfl⟩
  have b1 : Below w.heap.size w W1 := by rw [hW1]; exact (Below.refl _ _).alloc (Nat.le_refl _) _
  have s1 : W1.heap.size = w.heap.size + 1 := by rw [hW1]; simp
  have x1 : W1.heap[w.heap.size]? = some (.cells #[.pointer p] 30 (0, 0)) := by rw [hW1]; exact blk_alloc _ _
  have hsl := self_at h b1
  rw [hW1] at hsl
  have HSL := Sealed.mk hsl; clear hsl
  obtain ⟨n, hn⟩ : ∃ n, n = wl x := ⟨_, rfl⟩
  have hn3 : n ≤ 300 := by rw [hn]; exact h.1.1
  rw [← hn]
  have H := Sealed.mk (And.intro h hn); clear h hn
  have HX := Sealed.mk (And.intro hW1 (And.intro b1 (And.intro s1 x1))); clear hW1 b1 s1 x1
  go_enter Try.func41, Try.ntmps41
  go_wp2_with (go_at_call 66; go_must (refine HSL.out.mono ?_; rintro e w2 ⟨v2, rfl, hl2, hb2⟩; rw [← HX.out.1] at hb2; obtain ⟨a2, n2, c2, rfl⟩ := hl2.slice; have hn2 : n2 = n := (by rw [hl2.cells.1, H.out.2]; simp [enc, wl]); subst hn2; have H2 := Sealed.mk (And.intro hl2 hb2); clear hl2 hb2))
  go_loopg [3, 9] n2 (fun jj av iv W => ∃ (k : Nat) (oa : Option Addr) (oc : Nat) (ts : List (Bool × Option Addr)), jj = n2 - k ∧ k ≤ n2 ∧ iv = .int .i64 (k : Int) ∧ av = .slice oa k oc ∧ TermsOwn W (w.heap.size + 1) (.slice oa k oc) ((termsZ x).take k) ts ∧ Below (w.heap.size + 1) W1 W)
  case atStart =>
    refine ⟨0, none, 0, [], rfl, Nat.zero_le _, rfl, rfl, ⟨by simpa [trow] using World.ownsRow_nil _ _ _ _, by simp, fun i t s ht _ => by simp at ht⟩, ?_⟩
    have := H2.out.2
    rw [HX.out.2.2.1] at this
    exact this
  case round =>
    obtain ⟨k, oa, oc, ts, rfl, hk, rfl, rfl, hto, hb⟩ := hrel
    have bwr : Below w.heap.size w wr := HX.out.2.1.trans ⟨hb.os, hb.tape, hb.output, hb.size, fun q hq => hb.block q (by omega)⟩
    by_cases hkl : k < n2
    · obtain ⟨⟨m, e⟩, ht⟩ : ∃ t, (form x)[k]? = some t := ⟨_, List.getElem?_eq_getElem (by have := H.out.2; unfold wl at this; omega)⟩
      have hex : e ∈ exps x := mem_exps.2 ⟨_, List.mem_of_getElem? ht, rfl⟩
      have hx0 : x ≠ 0 := fun e0 => by rw [e0, form_zero] at ht; simp at ht
      obtain ⟨kb, hpk, hblk⟩ : ∃ kb, p = some ⟨kb, 0, none⟩ ∧ NumBlk w kb x := by
        rcases H.out.1.2 with ⟨h0, _⟩ | ⟨_, kb, h1, h2⟩
        · exact absurd h0 hx0
        · exact ⟨kb, by simpa using h1, h2⟩
      subst hpk
      have hte : (enc (pvs x) x)[k]? = some (m, (plist x).idxOf e) := by simp [enc, ht, pvs_idxOf]
      obtain ⟨-, -, -, hcell⟩ := (H2.out.1.below bwr).cells
      obtain ⟨bb, oo, rfl, h1, h2⟩ := hcell k _ hte
      have hep : e ∈ plist x := mem_plist.2 (.here hex)
      have hget : (plist x)[(plist x).idxOf e]? = some e := by
        have := List.idxOf_lt_length_of_mem hep
        rw [List.getElem?_eq_getElem this]; simp
      obtain ⟨q, hq⟩ : ∃ q, q = (plist x).idxOf e := ⟨_, rfl⟩
      rw [← hq] at h2 hget
      simp only at h1 h2
      obtain ⟨W4, hW4⟩ : ∃ W4, W4 = wr.alloc (.cells #[.bool m, .int .i64 (q : Int)] 98) := ⟨_, rfl⟩
      have b4 : Below wr.heap.size wr W4 := by rw [hW4]; exact (Below.refl _ _).alloc (Nat.le_refl _) _
      have b4d : Below wr.heap.size wr W4.drew := ⟨b4.os, b4.tape, b4.output, b4.size, b4.block⟩
      have kb4 : W4.drew.heap[wr.heap.size]? = some (.cells #[.bool m, .int .i64 (q : Int)] 98 (0, 0)) := by rw [hW4]; exact blk_alloc _ _
      have k0 : W4.drew.cell? ⟨wr.heap.size, 0, none⟩ = some (.bool m) := (cell_of_blk kb4 0).trans rfl
      have k1 : W4.drew.cell? ⟨wr.heap.size, 1, none⟩ = some (.int .i64 (q : Int)) := (cell_of_blk kb4 1).trans rfl
      have x4 : W4.drew.heap[w.heap.size]? = some (.cells #[.pointer (some ⟨kb, 0, none⟩)] 30 (0, 0)) := (b4d.block _ (by have := hb.size; have := HX.out.2.2.1; omega)).trans ((hb.block _ (by omega)).trans HX.out.2.2.2)
      have k2 : W4.drew.cell? ⟨w.heap.size, 0, none⟩ = some (.pointer (some ⟨kb, 0, none⟩)) := (cell_of_blk x4 0).trans rfl
      have bw4 : Below w.heap.size w W4.drew := below_chain2 bwr b4d
      have hpa := part_any (hblk.below bw4) H.out.1.1 hget
      have hlk : ((termsZ x).take k).length = k := by rw [List.length_take, termsZ_length, ← H.out.2]; omega
      have htk : (termsZ x).take (k + 1) = (termsZ x).take k ++ [(m, (e : Int))] := take_snoc (by unfold termsZ; rw [List.getElem?_map, ht]; rfl)
      have HPA := Sealed.mk hpa; clear hpa
      have HT := Sealed.mk (And.intro hto (And.intro b4d (And.intro kb4 (And.intro x4 (And.intro hlk (And.intro htk hb)))))); clear hto hb b4 b4d kb4 x4 hlk htk bw4 bwr hcell hte hep hget hq hblk hx0 hex ht
      have hqz : (0 : Int) ≤ (q : Int) := by omega
      go_upto_region 5 with fail
      rw [← hW4]
      have HW4 := Sealed.mk hW4; clear hW4
      go_region_law
        (first
          | (go_simp; go_at_call 82; go_must (refine HPA.out.mono ?_; rintro e6 w6 ⟨pp, rfl, hn6, hb6⟩; have z6 := (hb6.block _ (lt_of_blk HT.out.2.2.1)).trans HT.out.2.2.1; have k60 : w6.cell? ⟨wr.heap.size, 0, none⟩ = some (.bool m) := (cell_of_blk z6 0).trans rfl; have bw6 : Below wr.heap.size wr w6 := below_chain2 HT.out.2.1 hb6; have hto6 := HT.out.1.below bw6; have hown6 := hto6.own; rw [HT.out.2.2.2.2.1] at hown6; have H6 := Sealed.mk (And.intro hn6 (And.intro bw6 (And.intro hto6 hown6))); clear hn6 hb6 z6 bw6 hto6 hown6); try go_simp)
          | (refine step_ap_term el_Term (.tmp 13) (.tmp 22) rfl rfl rfl H6.out.2.2.2 rfl rfl rfl rfl (by omega) (by have h1 := H6.out.2.1.size; have h2 := HT.out.2.2.2.2.2.2.size; have h3 := HX.out.2.2.1; omega) ?_; go_must (intro g7 c7 w7 ho7 hg7 hn7; have HO7 := Sealed.mk (And.intro ho7 (And.intro hg7 hn7)); clear ho7 hg7 hn7)))
      all_goals
        go_wp2_with fail
        go_roundg (n2 - (k + 1))
        case measure => omega
        case rel =>
          refine ⟨k + 1, _, _, ts ++ [(m, pp)], rfl, by omega, by push_cast; rfl, rfl, ?_, ?_⟩
          · rw [HT.out.2.2.2.2.2.1]
            exact HT.out.1.push (n := k) H6.out.2.1 HT.out.2.2.2.2.1.symm H6.out.1 (grown_trans (World.grownBy_alloc w6 _ _) HO7.out.2.1) HO7.out.1
          · have h1 := HT.out.2.2.2.2.2.2
            have h2 := H6.out.2.1
            have h3 := HX.out.2.2.1
            have hg := grown_trans (World.grownBy_alloc w6 _ _) HO7.out.2.1
            have h5 : Below (w.heap.size + 1) W1 w6 := h1.trans ⟨h2.os, h2.tape, h2.output, h2.size, fun q hq => h2.block q (by have := h1.size; omega)⟩
            exact h5.grown hg (by have := h5.size; omega) (fun q hq => by exact own_ge H6.out.2.2.2 q hq)
    · have hkk : k = n2 := by omega
      subst hkk
      rw [List.take_of_length_le (by rw [termsZ_length, ← H.out.2]; exact Nat.le_refl _)] at hto
      have HF := Sealed.mk (And.intro hto bwr); clear hto hb bwr
      go_wp2_with fail
      go_ret
      exact ⟨oa, oc, ts, rfl, ⟨own_lower HF.out.1.own (by omega), HF.out.1.len, HF.out.1.num⟩, HF.out.2⟩
end Go.Proofs.Ytgchfbfgjanaiaa
