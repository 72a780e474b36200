/- (*sandreckonerref01.World).plus -/
import Derived.Test.YtgchfbfgjanaiaaB01
import Derived.Test.YtgchfbfgjanaiaaB02
import Derived.Test.YtgchfbfgjanaiaaA16
import Derived.Test.YtgchfbfgjanaiaaA26
import Derived.Deep.CutRange
import Derived.Deep.CutBlock
set_option linter.unusedSimpArgs false
set_option linter.unusedVariables false
namespace Go.Proofs.Ytgchfbfgjanaiaa
open Go.RowKit Sr
theorem small_w64 {z : Int} (h1 : 0 ≤ z) (h2 : z ≤ 1000000000) : wrap64 z = z := by unfold wrap64; omega
theorem small_i64 {z : Int} (h1 : 0 ≤ z) (h2 : z ≤ 1000000000) : IntKind.i64.wrap z = z := by have h := IntKind.wrap_i64 z; omega
theorem own_cap {w : World} {B e size n : Nat} {v : Value} {xs : List Value} (h : w.ownsRow B e size v n xs) : ∃ A c, v = .slice A n c ∧ n ≤ c := by
 rcases h.2 with ⟨rfl, rfl⟩ | ⟨g, cap, cur, rfl, _, _, h1, _⟩
 ·exact ⟨none, 0, rfl, Nat.le_refl _⟩
 ·exact ⟨_, cap, rfl, h1⟩
theorem grown_refl (w : World) (r : Option Nat) : w.grownBy w r := ⟨rfl, rfl, rfl, Nat.le_refl _, fun _ _ _ => rfl⟩
section
variable {P : Program} {ops : Array Oper} {rest : List Oper} {o : Oper} {a : Act} {Q : Exit → Act → World → Prop}
theorem ap_rtl {W : World} {B n : Nat} {v u : Value} {xs : List Value} {l2 : List (Bool × Nat)} (s x : Operand) (hgd : o.guard = none)
  (ho : o.op = .call { callee := .builtin .append, args := #[s, x], argTypes := #[42, 42] }) (hs : a.eval s = v) (hown : W.ownsRow B 49 2 v n xs)
  (hx : a.eval x = u) (hr : RTL W u l2) (hn : n + l2.length ≤ 1000000000) (hB : B ≤ W.heap.size)
  (h : ∀ v' w', w'.ownsRow B 49 2 v' (n + l2.length) (xs ++ tcells l2) → W.grownBy w' v.ownBlock → NewOr W v v' → wpList Try.prog ops Q rest (a.put o.dst v') w') : wpList Try.prog ops Q (o :: rest) a W := by
 obtain ⟨h1, h2, ad, c, rfl, h3, h4⟩ := hr
 by_cases hl : l2 = []
 ·subst hl
  obtain ⟨A, c0, rfl, hc⟩ := own_cap hown
  exact ap_none el_rterm s x hgd ho hs hc hx (h _ _ (by simpa [tcells] using hown) (grown_refl _ _) (.inl rfl))
 ·obtain ⟨b, of, rfl, hrd⟩ := h4 hl
  exact ap_blk el_rterm s x hgd ho hs hown hx (tcells_length l2) hrd.reads (tcells_one l2) hn hB h
end
theorem step_ap_rtl {ops : Array Oper} {o : Oper} {a : Act} {K : Act → World → Prop} {Q : Exit → Act → World → Prop} {X : Prop} {W : World} {B n : Nat} {v u : Value} {xs : List Value} {l2 : List (Bool × Nat)} (s x : Operand) (hgd : o.guard = none)
  (ho : o.op = .call { callee := .builtin .append, args := #[s, x], argTypes := #[42, 42] }) (hs : a.eval s = v) (hown : W.ownsRow B 49 2 v n xs)
  (hx : a.eval x = u) (hr : RTL W u l2) (hn : n + l2.length ≤ 1000000000) (hB : B ≤ W.heap.size)
  (h : ∀ v' w', w'.ownsRow B 49 2 v' (n + l2.length) (xs ++ tcells l2) → W.grownBy w' v.ownBlock → NewOr W v v' → K (a.put o.dst v') w') :
  if Region.wanted o (yielded ops a.tmps) = true then Oper.wp Try.prog o a W K Q else X := by
 obtain ⟨h1, h2, ad, c, rfl, h3, h4⟩ := hr
 by_cases hl : l2 = []
 ·subst hl
  obtain ⟨A, c0, rfl, hc⟩ := own_cap hown
  have hw : Region.wanted o (yielded ops a.tmps) = true := by simp [Region.wanted, hgd]
  rw [if_pos hw]
  obtain ⟨i0, hi, _⟩ := Option.map_eq_some_iff.1 el_rterm.info
  have hx' : a.eval x = .slice ad 0 c := hx
  unfold Oper.wp execOp
  simp only [ho, resolve, invoke, builtin, Sem.run_bind, Sem.run_pure, Result.andThen_ok, List.map_toArray, List.map_cons, List.map_nil, hs, hx', run_append_none el_rterm.ht i0 hi W o.type A ad n c0 c hc]
  exact h _ _ (by simpa [tcells] using hown) (grown_refl _ _) (.inl rfl)
 ·obtain ⟨b, of, rfl, hrd⟩ := h4 hl
  exact step_ap_blk el_rterm s x hgd ho hs hown hx (tcells_length l2) hrd.reads (tcells_one l2) (List.length_pos_iff.2 hl) hn hB fun g cap w' q1 q2 q3 => h _ _ q1 q2 q3
theorem blk_alloc_at (w : World) (o : Obj) {q : Nat} (h : q = w.heap.size) : (w.alloc o).heap[q]? = some o := by subst h; exact blk_alloc w o
theorem own_empty_at {w : World} {B e size q : Nat} (hq : q = w.heap.size) (hB : B ≤ w.heap.size) (cur : Array Value) (h : cur.size = 0) : (w.alloc (.cells cur e)).ownsRow B e size (.slice (some ⟨q, 0, none⟩) 0 0) 0 [] := by subst hq; exact own_empty hB cur h
theorem lit_reads {w : World} {q : Nat} {u1 u2 : Value} {t : TypeId} {fz : Nat × Nat} (h : w.heap[q]? = some (.cells #[u1, u2] t fz)) : Reads w q 0 [u1, u2] := fun j u hu => by
 rw [cell_of_blk h, Nat.zero_add]; simpa using hu
theorem RTL.head {w : World} {ad : Option Addr} {n c k : Nat} {a b : List (Bool × Nat)} (h : RTL w (.slice ad n c) (a ++ b)) (hk : k = a.length) : RTL w (.slice ad k c) a := by
 obtain ⟨h1, h2, ad', c', e, h3, h4⟩ := h
 obtain ⟨rfl, -, rfl⟩ := Value.slice.inj e
 subst hk
 refine ⟨by simp at h1; omega, fun q hq => h2 q (by cases ad <;> exact hq), ad, c, rfl, by simp at h3; omega, fun hne => ?_⟩
 obtain ⟨bb, o, rfl, hr⟩ := h4 (by intro e; exact hne (List.append_eq_nil_iff.1 e).1)
 exact ⟨bb, o, rfl, ⟨fun j u hu => hr.reads j u (by rw [tcells_append, List.getElem?_append_left (List.getElem?_eq_some_iff.1 hu).1]; exact hu), hr.ty⟩⟩
theorem RTL.tail {w : World} {ad : Option Addr} {n c k : Nat} {a b : List (Bool × Nat)} (h : RTL w (.slice ad n c) (a ++ b)) (hk : k = a.length) {ad' : Option Addr} {m c' : Nat} (hm : m = b.length) (hc : c' = c - k) (hb : b ≠ [] → ∀ bb o, ad = some ⟨bb, o, none⟩ → ad' = some ⟨bb, o + k * 2, none⟩) (hlt : ∀ q, (Value.slice ad' m c').ownBlock = some q → q < w.heap.size) : RTL w (.slice ad' m c') b := by
 obtain ⟨h1, h2, ad2, c2, e, h3, h4⟩ := h
 obtain ⟨rfl, -, rfl⟩ := Value.slice.inj e
 subst hk hm hc
 refine ⟨by simp at h1; omega, hlt, ad', _, rfl, by simp at h3; omega, fun hne => ?_⟩
 obtain ⟨bb, o, rfl, hr⟩ := h4 (by intro e; exact hne (List.append_eq_nil_iff.1 e).2)
 refine ⟨bb, o + a.length * 2, hb hne bb o rfl, ⟨fun j u hu => ?_, hr.ty⟩⟩
 have := hr.reads (a.length * 2 + j) u (by rw [tcells_append, List.getElem?_append_right (by rw [tcells_length]; omega), tcells_length]; simpa using hu)
 rw [Nat.add_assoc]; exact this
theorem inForms_below {w w1 : World} {b : RB} {vs U : List Int} (h : RInv w b vs U) (hb : Below w.heap.size w w1) {q : Nat} (hq : InForms w1 b vs q) : InForms w b vs q := by
 obtain ⟨i, v, hi, hc, hv⟩ := hq
 exact ⟨i, v, hi, by rw [← cell_same (hb.block _ (h.lt b.f (.inr rfl))) i]; exact hc, hv⟩
def CovL (vs : List Int) (l : List T) : Prop := ∀ t ∈ l, (t.2 : Int) ∈ vs
theorem CovL.pre {vs vs' : List Int} {l : List T} (h : CovL vs l) (hp : vs <+: vs') : CovL vs' l := fun t ht => hp.subset (h t ht)
theorem place_iff {vs : List Int} (h : vs.Nodup) {i j : Nat} {x y : Int} (hi : vs[i]? = some x) (hj : vs[j]? = some y) : i = j ↔ x = y := by
 constructor
 ·rintro rfl; rw [hi] at hj; exact Option.some.inj hj
 ·rintro rfl; exact (idxOf_of h hi).symm.trans (idxOf_of h hj)
theorem pre_get {vs vs' : List Int} (h : vs <+: vs') {i : Nat} {x : Int} (hi : vs[i]? = some x) : vs'[i]? = some x := getElem?_prefix h hi
def RNext (U : List Int) (q : Nat) : Prop := ∀ {w : World} {b : RB} {vs : List Int} {i : Nat}, RInv w b vs U → vs[i]? = some (q : Int) →
 Calls Try.prog 68 #[.pointer (some ⟨b.p, 0, none⟩), .int .i64 (i : Int)] w fun e w' => ∃ vs' b' j, e = .returned (.int .i64 ((j : Nat) : Int)) ∧ vs'[j]? = some ((q : Int) + 1) ∧ RStep U w w' b b' vs vs'
theorem RNext.call {U : List Int} {q : Nat} (h : RNext U q) {w : World} {b : RB} {vs : List Int} {i : Nat} (hi : RInv w b vs U) (hq : vs[i]? = some (q : Int)) :
  Calls Try.prog 68 #[.pointer (some ⟨b.p, 0, none⟩), .int .i64 (i : Int)] w fun e w' => ∃ vs' b' j, e = .returned (.int .i64 ((j : Nat) : Int)) ∧ vs'[j]? = some ((q : Int) + 1) ∧ RStep U w w' b b' vs vs' := h hi hq
def PlsOut (U : List Int) (w : World) (b : RB) (vs : List Int) (x : Int) (e : Ending) (w' : World) : Prop :=
 ∃ vs' b' v', e = .returned v' ∧ RTL w' v' (encL vs' (form x)) ∧ CovL vs' (form x) ∧ RStep U w w' b b' vs vs'
theorem RStep.notM {U : List Int} {w w' : World} {b b' : RB} {vs vs' : List Int} (h : RStep U w w' b b' vs vs') {k : Nat} (hk : k < w.heap.size) (hM : ¬ b.M k) : ¬ b'.M k := fun h' => by
 rcases h.news k h' with h1 | h1
 ·exact hM h1
 ·omega
theorem RTL.after {U : List Int} {w w' : World} {b b' : RB} {vs vs' : List Int} {v : Value} {l : List T} (h : RTL w v (encL vs l)) (hc : CovL vs l) (s : RStep U w w' b b' vs vs') (hi : RInv w b vs U) : RTL w' v (encL vs' l) := by
 rw [encL_prefix s.pre hc]
 by_cases hl : l = []
 ·subst hl
  obtain ⟨h1, h2, a, c, rfl, h3, h4⟩ := h
  exact ⟨h1, fun q hq => Nat.lt_of_lt_of_le (h2 q hq) s.ext.size, a, c, rfl, h3, fun h => absurd rfl h⟩
 ·exact h.step s (h.notM hi (by intro e; apply hl; cases l with
   | nil => rfl
   | cons t l => simp [encL] at e))
theorem RStep.adv {U : List Int} {w w1 w2 : World} {b b1 : RB} {vs vs1 : List Int} (h : RStep U w w1 b b1 vs vs1) (e : Below w1.heap.size w1 w2) : RStep U w w2 b b1 vs vs1 := h.trans (RStep.kept h.inv e)
theorem RStep.dr {U : List Int} {w w1 : World} {b b1 : RB} {vs vs1 : List Int} (h : RStep U w w1 b b1 vs vs1) : RStep U w w1.drew b b1 vs vs1 := h.adv ⟨rfl, rfl, rfl, Nat.le_refl _, fun _ _ => rfl⟩
theorem RStep.drN {U : List Int} {w w1 : World} {b b1 : RB} {vs vs1 : List Int} (h : RStep U w w1 b b1 vs vs1) (q : Nat) : RStep U w (w1.drewN q) b b1 vs vs1 := h.adv ⟨rfl, rfl, rfl, Nat.le_refl _, fun _ _ => rfl⟩
theorem encL_mid (vs : List Int) (A B : List T) (t : T) : encL vs (A ++ t :: B) = encL vs A ++ (t.1, vs.idxOf (t.2 : Int)) :: encL vs B := by simp [encL]
theorem encL_app (vs : List Int) (A B : List T) : encL vs (A ++ B) = encL vs A ++ encL vs B := by simp [encL]
theorem CovL.sub {vs : List Int} {l l' : List T} (h : CovL vs l) (hs : ∀ t ∈ l', t ∈ l) : CovL vs l' := fun t ht => h t (hs t ht)
theorem r_without {U : List Int} {w : World} {b : RB} {vs : List Int} {a : Option Addr} {n c k : Nat} {A B : List T} {t : T} (h : RTL w (.slice a n c) (encL vs (A ++ t :: B))) (hk : k = A.length) (hi : RInv w b vs U) :
  Calls Try.prog 97 #[.slice a n c, .int .i64 (k : Int)] w fun e w' => ∃ v', e = .returned v' ∧ RTL w' v' (encL vs (A ++ B)) ∧ Below w.heap.size w w' := by
 have hl := h.1
 rw [encL_mid] at h
 refine (rwithout_any h (k := k) (by rw [encL_length, hk])).mono fun e w' he => ?_
 obtain ⟨v', rfl, ho, hb⟩ := he
 refine ⟨v', rfl, ?_, hb⟩
 rw [encL_app]
 exact RTL.of_own ho (by rw [encL_mid] at hl; simp at hl ⊢; omega)
set_option maxRecDepth 100000 in
set_option maxHeartbeats 4000000 in
theorem rplus_step {U : List Int} {L A B : List T} {m : Bool} {e : Nat} (hL : L = A ++ B) (hA : ∀ s ∈ A, e < s.2) (hB : ∀ s ∈ B, s.2 ≤ e) (g : Gap L) (hlen : L.length ≤ 90000)
  (hN : ∀ q, Asks L e q → RNext U q)
  (ih : ∀ (L' : List T) (m' : Bool) (e' : Nat), cnt e' L' < cnt e L → Gap L' → L'.length ≤ L.length → (∀ q, Asks L' e' q → RNext U q) → ∀ {w : World} {b : RB} {vs : List Int} {v : Value} {i : Nat}, RInv w b vs U → RTL w v (encL vs L') → CovL vs L' → vs[i]? = some (e' : Int) →
   Calls Try.prog 67 #[.pointer (some ⟨b.p, 0, none⟩), v, .agg #[.bool m', .int .i64 (i : Int)]] w (PlsOut U w b vs (val L' + tv (m', e'))))
  {w : World} {b : RB} {vs : List Int} {v : Value} {i : Nat} (h : RInv w b vs U) (hl : RTL w v (encL vs L)) (hc : CovL vs L) (hi : vs[i]? = some (e : Int)) :
  Calls Try.prog 67 #[.pointer (some ⟨b.p, 0, none⟩), v, .agg #[.bool m, .int .i64 (i : Int)]] w (PlsOut U w b vs (val L + tv (m, e))) := by
 obtain ⟨a, c, rfl⟩ := hl.len
 obtain ⟨n, hn⟩ : ∃ n, n = L.length := ⟨_, rfl⟩
 have hn2 : (encL vs L).length = n := by rw [encL_length, hn]
 obtain ⟨k0, hk0⟩ : ∃ k, k = A.length := ⟨_, rfl⟩
 have hk0n : k0 ≤ n := by rw [hk0, hn, hL]; simp
 obtain ⟨-, -, hnc, hcl⟩ := hl.cells
 rw [hn2] at hnc ⊢
 obtain ⟨W0, hW0⟩ : ∃ W0, W0 = w.alloc (.cells #[.bool m, .int .i64 (i : Int)] 49) := ⟨_, rfl⟩
 have hb0 : Below w.heap.size w W0 := by rw [hW0]; exact (Below.refl _ _).alloc (Nat.le_refl _) _
 have kb0 : W0.heap[w.heap.size]? = some (.cells #[.bool m, .int .i64 (i : Int)] 49 (0, 0)) := by rw [hW0]; exact blk_alloc _ _
 -- what every later world keeps
 have hkeep : ∀ {W : World} {b1 : RB} {vs1 : List Int}, RStep U W0 W b b1 vs vs1 → W.cell? ⟨w.heap.size, 0, none⟩ = some (.bool m) ∧ W.cell? ⟨w.heap.size, 1, none⟩ = some (.int .i64 (i : Int)) ∧ RTL W (.slice a n c) (encL vs L) ∧ RTL W (.slice a n c) (encL vs1 L) := fun {W b1 vs1} s => by
  have hk1 : w.heap.size < W0.heap.size := lt_of_blk kb0
  have hnm : ¬ b.M w.heap.size := fun h' => by have := h.lt _ h'; omega
  have hbk := (s.ext.block _ hk1 hnm).trans kb0
  have h1 : RTL W (.slice a n c) (encL vs1 L) := by have := (hl.below hb0).after hc s (h.below hb0); rw [hn2] at this; exact this
  exact ⟨(cell_of_blk hbk 0).trans rfl, (cell_of_blk hbk 1).trans rfl, by rw [← encL_prefix s.pre hc]; exact h1, h1⟩
 have s0 : RStep U W0 W0 b b vs vs := RStep.refl (h.below hb0)
 have hfin : ∀ {W : World} {b1 : RB} {vs1 : List Int}, RStep U W0 W b b1 vs vs1 → RStep U w W b b1 vs vs1 := fun s => (RStep.kept h hb0).trans s
 have hcell : ∀ {k : Nat} {s : T}, L[k]? = some s → ∃ bb oo, a = some ⟨bb, oo, none⟩ ∧ vs[vs.idxOf (s.2 : Int)]? = some (s.2 : Int) ∧ ∀ {W : World} {b1 : RB} {vs1 : List Int}, RStep U W0 W b b1 vs vs1 → W.cell? ⟨bb, oo + k * 2, none⟩ = some (.bool s.1) ∧ W.cell? ⟨bb, oo + k * 2 + 1, none⟩ = some (.int .i64 (vs.idxOf (s.2 : Int) : Nat)) := fun {k s} hs => by
  have hs' : (encL vs L)[k]? = some (s.1, vs.idxOf (s.2 : Int)) := by simp [encL, hs]
  obtain ⟨bb, oo, rfl, -, -⟩ := hcl k _ hs'
  refine ⟨bb, oo, rfl, idxOf_get (hc s (List.mem_of_getElem? hs)), fun st => ?_⟩
  obtain ⟨-, -, -, hcl2⟩ := (hkeep st).2.2.1.cells
  obtain ⟨bb', oo', e1, c1, c2⟩ := hcl2 k _ hs'
  obtain ⟨rfl, rfl⟩ : bb = bb' ∧ oo = oo' := by simpa using e1
  exact ⟨c1, c2⟩
 have HK := Sealed.mk @hkeep
 have HC := Sealed.mk @hcell
 have HF := Sealed.mk @hfin
 have HS0 := Sealed.mk s0
 have H := Sealed.mk (And.intro hi (And.intro hn (And.intro hk0 (And.intro hc (And.intro h (And.intro hb0 hl))))))
 have HI := Sealed.mk (And.intro hN @ih)
 have HG := Sealed.mk g
 have HL := Sealed.mk (And.intro hL (And.intro hA hB))
 have hlen2 : n ≤ 90000 := by rw [hn]; exact hlen
 clear hkeep hcell hfin s0 hi hn hk0 hc h hb0 kb0 hN ih g hL hA hB hl hcl hn2 hlen
 go_enter Try.func67, Try.ntmps67
 go_upto_block 0 with fail
 rw [← hW0]
 clear hW0
 have hsq : ∀ q, RStep U W0 (W0.drewN q) b b vs vs := fun q => r_done HS0.out.inv rfl
 have HQ := Sealed.mk hsq; clear hsq
 go_cut [7] from 12 to 29 (fun kv wx => kv = .int .i64 (k0 : Int) ∧ RStep U W0 wx b b vs vs)
 case first =>
  go_wp2_with fail
  go_loopg [7] n (fun jj kv W => ∃ k : Nat, jj = n - k ∧ k ≤ k0 ∧ kv = .int .i64 (k : Int) ∧ ∃ q, W = W0.drewN q)
  case atStart => exact ⟨0, rfl, Nat.zero_le _, rfl, 0, rfl⟩
  case round =>
   obtain ⟨k, rfl, hk, rfl, q, hqw⟩ := hrel
   have hsw : ∀ z, RStep U W0 (wr.drewN z) b b vs vs := fun z => by rw [hqw, World.drewN_drewN]; exact HQ.out _
   have hsw0 : RStep U W0 wr b b vs vs := by rw [hqw]; exact HQ.out _
   have hend : ∀ z, ∃ q, wr.drewN z = W0.drewN q := fun z => ⟨q + z, by rw [hqw, World.drewN_drewN]⟩
   have HQW := Sealed.mk (And.intro hsw (And.intro hsw0 hend)); clear hsw hsw0 hend hqw
   have t0 := (HK.out HQW.out.2.1).1
   have t1 := (HK.out HQW.out.2.1).2.1
   by_cases hkn : k < n
   ·obtain ⟨s, hs⟩ : ∃ s, L[k]? = some s := ⟨_, List.getElem?_eq_getElem (by have := H.out.2.1; omega)⟩
    obtain ⟨bb, oo, rfl, hvs, hcs⟩ := HC.out hs
    have hkn' : (k : Int) < (n : Int) := by omega
    have bK : decide ((k : Int) < (n : Int)) = true := decide_eq_true hkn'
    obtain ⟨p, hp⟩ : ∃ p, p = vs.idxOf (s.2 : Int) := ⟨_, rfl⟩
    rw [← hp] at hvs hcs
    have c0 := (hcs HQW.out.2.1).1
    have c1 := (hcs HQW.out.2.1).2
    have hcm : ∀ q, Calls Try.prog 86 #[.pointer (some ⟨b.p, 0, none⟩), .int .i64 (p : Int), .int .i64 (i : Int)] (wr.drewN q) fun r w' => r = .returned (.int .i64 (sg ((s.2 : Int) - (e : Int)))) ∧ ∃ m, w' = (wr.drewN q).drewN m := fun q => rCmp_at hvs H.out.1 (HQW.out.1 q).inv
    by_cases hlt : k < k0
    ·have hsA : e < s.2 := by
      refine HL.out.2.1 s ?_
      have h1 := hs
      rw [HL.out.1, List.getElem?_append_left (by have := H.out.2.2.1; omega)] at h1
      exact List.mem_of_getElem? h1
     have hsg : sg ((s.2 : Int) - (e : Int)) = 1 := by unfold sg; rw [if_neg (by omega), if_neg (by omega)]
     rw [hsg] at hcm
     have HCM := Sealed.mk hcm
     clear hcm hcs hsA hsg hs hp hvs
     go_wp2_with fail
     go_quiet (first | (go_at_call 86; exact Calls.quiet_of (HCM.out _)))
     go_wp2_with fail
     go_roundg (n - (k + 1))
     case measure => omega
     case rel => exact ⟨k + 1, rfl, by omega, by push_cast; rfl, HQW.out.2.2 _⟩
    ·obtain rfl : k = k0 := by omega
     have hsB : s.2 ≤ e := by
      refine HL.out.2.2 s ?_
      have h1 := hs
      rw [HL.out.1, List.getElem?_append_right (by have := H.out.2.2.1; omega)] at h1
      exact List.mem_of_getElem? h1
     have hsg : ¬ 0 < sg ((s.2 : Int) - (e : Int)) := by unfold sg; split <;> (try split) <;> omega
     obtain ⟨sv, hsv⟩ : ∃ z, z = sg ((s.2 : Int) - (e : Int)) := ⟨_, rfl⟩
     rw [← hsv] at hcm hsg
     have bS : decide (0 < sv) = false := decide_eq_false hsg
     have HCM := Sealed.mk hcm
     clear hcm hcs hsB hs hp hvs hsv
     go_wp2_with fail
     go_quiet (first | (go_at_call 86; exact Calls.quiet_of (HCM.out _)))
     go_wp2_with fail
     go_meet
     case rel => exact ⟨rfl, HQW.out.1 _⟩
   ·obtain rfl : k = n := by omega
    obtain rfl : k = k0 := by omega
    have hkn' : ¬ (k : Int) < (k : Int) := by omega
    have bK : decide ((k : Int) < (k : Int)) = false := decide_eq_false hkn'
    go_wp2_with fail
    go_quiet (fail)
    go_wp2_with fail
    go_meet
    case rel => exact ⟨rfl, HQW.out.1 _⟩
 case rest =>
  obtain ⟨rfl, hst⟩ := hcut
  obtain ⟨W, hW⟩ : ∃ W, W = wc := ⟨_, rfl⟩
  rw [← hW] at hst ⊢
  clear hW
  have P := Sealed.mk hst; clear hst HQ
  have hmem : ∀ {A' B' : List T} {t : T}, L = A' ++ t :: B' → ∀ {s : T}, s ∈ A' ++ B' → s ∈ L := fun h s hs => by
   rw [h]; simp at hs ⊢; rcases hs with hs | hs <;> simp [hs]
  have HM := Sealed.mk @hmem; clear hmem
  by_cases hEq : ∃ n1 B', B = (n1, e) :: B'
  ·obtain ⟨n1, B', rfl⟩ := hEq
   have hLk : L[k0]? = some (n1, e) := by rw [HL.out.1, H.out.2.2.1]; simp
   obtain ⟨bb, oo, rfl, -, hcs⟩ := HC.out hLk
   have hix : vs.idxOf (e : Int) = i := idxOf_of P.out.inv.cl.nodup H.out.1
   simp only [hix] at hcs
   have c0 := (hcs P.out).1
   have c1 := (hcs P.out).2
   have t0 := (HK.out P.out).1
   have t1 := (HK.out P.out).2.1
   have hkn : k0 < n := by have := (List.getElem?_eq_some_iff.1 hLk).1; rw [H.out.2.1]; exact this
   have hkn' : (k0 : Int) < (n : Int) := by omega
   have bK : decide ((k0 : Int) < (n : Int)) = true := decide_eq_true hkn'
   have HIX := Sealed.mk (And.intro hix hLk)
   clear hix hLk hcs
   by_cases hn1 : n1 = m
   ·obtain rfl : m = n1 := hn1.symm
    clear hn1
    go_wp2_with fail
    go_quiet (fail)
    go_upto_region 5 with fail
    generalize hW1 : World.drewN _ _ = W1
    have hb1 : Below W.heap.size W W1 := by rw [← hW1]; exact ⟨rfl, rfl, rfl, Nat.le_refl _, fun _ _ => rfl⟩
    clear hW1
    have c0 := (cell_same (hb1.block _ (lt_of_cell c0)) _).trans c0
    have t0 := (cell_same (hb1.block _ (lt_of_cell t0)) _).trans t0
    replace P := Sealed.mk (P.out.adv hb1)
    clear hb1
    go_quiet (fail)
    go_upto_region 7 with fail
    generalize hW2 : World.drewN _ _ = W2
    have hb1 : Below W1.heap.size W1 W2 := by rw [← hW2]; exact ⟨rfl, rfl, rfl, Nat.le_refl _, fun _ _ => rfl⟩
    replace P := Sealed.mk (P.out.adv hb1).dr
    clear hW2 hb1 c0 c1 t0 t1
    have hrt : ∀ {W' : World} {b1 : RB} {vs1 : List Int}, RStep U W0 W' b b1 vs vs1 → RTL W' (.slice (some ⟨bb, oo, none⟩) n c) (encL vs1 (A ++ (m, e) :: B')) := fun st => by
     rw [← HL.out.1]; exact (HK.out st).2.2.2
    have hg := HG.out
    have hns := HI.out.1
    have hih := HI.out.2 (A ++ B') m (e + 1)
    have hcv := H.out.2.2.2.1
    rw [HL.out.1] at hg hns hih hcv
    have hih2 := fun {w b vs v i} => hih (cnt_twice HL.out.2.1) (pls_sub hg) (by simp) (fun q hq => hns q (asks_twice HL.out.2.1 hg hq)) (w := w) (b := b) (vs := vs) (v := v) (i := i)
    have HIH := Sealed.mk @hih2
    have HNX : Sealed (RNext U e) := ⟨hns e (asks_self m A B')⟩
    have HRT := Sealed.mk @hrt
    have HCV := Sealed.mk (show CovL vs (A ++ B') from hcv.sub fun t ht => by simp at ht ⊢; rcases ht with ht | ht <;> simp [ht])
    clear hrt hg hns hih hih2 hcv
    go_region_held3 (fun W' => W'.cell? ⟨w.heap.size, 0, none⟩ = some (.bool m) ∧ W'.cell? ⟨w.heap.size, 1, none⟩ = some (.int .i64 (i : Int)))
     (first
      | exact ⟨(HK.out P.out).1, (HK.out P.out).2.1⟩
      | exact ⟨(HK.out (P.out.trans R.out.2.2)).1, (HK.out (P.out.trans R.out.2.2)).2.1⟩)
     (first
      | (go_at_call 97; go_must ((with_reducible refine (r_without (HRT.out P.out) H.out.2.2.1 P.out.inv).mono ?_); rintro e1 w1 ⟨v1, rfl, hl1, hb1⟩; replace P := Sealed.mk (P.out.adv hb1); have L2 := Sealed.mk hl1; clear hl1 hb1))
      | (go_at_call 68; go_must ((with_reducible refine (HNX.out.call P.out.inv (pre_get P.out.pre H.out.1)).mono ?_); rintro e2 w2 ⟨vs1, b1, j1, rfl, hj1, hs1⟩; (try (replace L2 := Sealed.mk (L2.out.after (HCV.out.pre P.out.pre) hs1 P.out.inv))); replace P := Sealed.mk (P.out.trans hs1); have J1 : Sealed (vs1[j1]? = some ((e + 1 : Nat) : Int)) := ⟨by rw [hj1]; push_cast; rfl⟩; clear hj1 hs1))
      | (go_at_call 67; go_must (have hq := HIH.out P.out.inv L2.out (HCV.out.pre P.out.pre) J1.out; rw [P.out.p] at hq; (with_reducible refine hq.mono ?_); clear hq; rintro e3 w3 ⟨vs3, b3, v3, rfl, hl3, hc3, hs3⟩; have R := Sealed.mk (And.intro hl3 (And.intro hc3 hs3)); clear hl3 hc3 hs3)))
    all_goals
     go_wp2_with fail
     go_ret
     have hv : val L + tv (m, e) = val (A ++ B') + tv (m, e + 1) := by rw [HL.out.1, ← pls_twice]
     exact ⟨vs3, b3, v3, rfl, by rw [hv]; exact R.out.1, by rw [hv]; exact R.out.2.1, HF.out (P.out.trans R.out.2.2)⟩
   ·have hmb : (n1 == m) = false := by simpa using hn1
    have HN1 := Sealed.mk hn1; clear hn1
    go_wp2_with fail
    go_quiet (fail)
    go_upto_region 5 with fail
    generalize hW1 : World.drewN _ _ = W1
    have hb1 : Below W.heap.size W W1 := by rw [← hW1]; exact ⟨rfl, rfl, rfl, Nat.le_refl _, fun _ _ => rfl⟩
    clear hW1
    have c0 := (cell_same (hb1.block _ (lt_of_cell c0)) _).trans c0
    have t0 := (cell_same (hb1.block _ (lt_of_cell t0)) _).trans t0
    replace P := Sealed.mk (P.out.adv hb1)
    clear hb1
    go_quiet (fail)
    go_upto_region 6 with fail
    generalize hW2 : World.drewN _ _ = W2
    have hb1 : Below W1.heap.size W1 W2 := by rw [← hW2]; exact ⟨rfl, rfl, rfl, Nat.le_refl _, fun _ _ => rfl⟩
    replace P := Sealed.mk (P.out.adv hb1)
    clear hW2 hb1
    have hrt := (HK.out P.out).2.2.1
    rw [HL.out.1] at hrt
    have HRT := Sealed.mk hrt; clear hrt
    go_wp2_with (go_at_call 97; go_must (refine (r_without HRT.out H.out.2.2.1 P.out.inv).mono ?_; rintro e1 w1 ⟨v1, rfl, hl1, hb1⟩; have R := Sealed.mk (And.intro hl1 (P.out.adv hb1)); clear hl1 hb1))
    go_ret
    have hf : form (val L + tv (m, e)) = A ++ B' := by
     have hg := HG.out
     rw [HL.out.1] at hg ⊢
     exact pls_drop hg HN1.out
    refine ⟨vs, b, v1, rfl, ?_, ?_, HF.out R.out.2⟩
    ·rw [hf]; exact R.out.1
    ·rw [hf]; exact H.out.2.2.2.1.sub fun t ht => HM.out HL.out.1 ht
  ·have hBl : ∀ s ∈ B, s.2 + 1 ≤ e := fun s hs => by
    have h1 := HL.out.2.2 s hs
    have h2 : s.2 ≠ e := fun h2 => by
     cases B with
     | nil => simp at hs
     | cons t B' =>
       rcases List.mem_cons.1 hs with rfl | hs
       ·exact hEq ⟨s.1, B', by rw [← h2]⟩
       ·have hg := HG.out
        rw [HL.out.1] at hg
        have h3 := (gap_cons.1 (gap_app.1 hg).2.1).1 s hs
        have h4 := HL.out.2.2 t (by simp)
        omega
    omega
   have HB := Sealed.mk hBl; clear hBl hEq
   -- is the term at the place k0 the one asked for: no
   have t0 := (HK.out P.out).1
   have t1 := (HK.out P.out).2.1
   obtain ⟨nb, hnb⟩ : ∃ nb : Bool, nb = true ↔ ∃ A' h, A = A' ++ [(h, e + 1)] := by
    by_cases h : ∃ A' h, A = A' ++ [(h, e + 1)]
    ·exact ⟨true, by simpa using h⟩
    ·exact ⟨false, by simp only [Bool.false_eq_true, false_iff]; exact h⟩
   have HNB := Sealed.mk hnb; clear hnb
   go_upto_region 4 with fail
   go_cut [43] from 30 to 43 (fun tv wx => tv = .bool false ∧ RStep U W0 wx b b vs vs)
   case first =>
    by_cases hkn : k0 < n
    ·obtain ⟨s, hs⟩ : ∃ s, L[k0]? = some s := ⟨_, List.getElem?_eq_getElem (by have := H.out.2.1; omega)⟩
     obtain ⟨bb, oo, rfl, hvs, hcs⟩ := HC.out hs
     have hsB : s.2 + 1 ≤ e := HB.out s (by
      have h1 := hs
      rw [HL.out.1, List.getElem?_append_right (by have := H.out.2.2.1; omega)] at h1
      exact List.mem_of_getElem? h1)
     obtain ⟨p, hp⟩ : ∃ p, p = vs.idxOf (s.2 : Int) := ⟨_, rfl⟩
     rw [← hp] at hvs hcs
     have c0 := (hcs P.out).1
     have c1 := (hcs P.out).2
     have hpi : ¬ p = i := fun h => by
      have := (place_iff P.out.inv.cl.nodup hvs H.out.1).1 h
      omega
     have bP : ((p : Int) == (i : Int)) = false := by simp; omega
     have hkn' : (k0 : Int) < (n : Int) := by omega
     have bK : decide ((k0 : Int) < (n : Int)) = true := decide_eq_true hkn'
     clear hpi hsB hs hvs hcs hp
     go_wp2_with fail
     go_quiet (fail)
     go_wp2_with fail
     go_meet
     case rel => exact ⟨rfl, P.out.drN _⟩
    ·have hkn' : ¬ (k0 : Int) < (n : Int) := by omega
     have bK : decide ((k0 : Int) < (n : Int)) = false := decide_eq_false hkn'
     go_wp2_with fail
     go_quiet (fail)
     go_wp2_with fail
     go_meet
     case rel => exact ⟨rfl, P.out.drN _⟩
   case rest =>
    obtain ⟨rfl, hst⟩ := hcut
    obtain ⟨W1, hW1⟩ : ∃ W1, W1 = wc := ⟨_, rfl⟩
    rw [← hW1] at hst ⊢
    clear hW1 t0 t1
    replace P := Sealed.mk hst; clear hst
    go_upto_region 8 with fail
    go_cut [81] from 67 to 81 (fun tv wx => tv = .bool nb ∧ ∃ b1 vs1, RStep U W0 wx b b1 vs vs1)
    case first =>
     by_cases hA0 : A = []
     ·have hnb : nb = false := by
       cases hq : nb
       ·rfl
       ·obtain ⟨A', h', hh⟩ := HNB.out.1 hq
        rw [hA0] at hh
        simp at hh
      obtain rfl : k0 = 0 := by rw [H.out.2.2.1, hA0]; rfl
      have HNB2 := Sealed.mk hnb; clear hnb hA0
      go_wp2_with fail
      go_quiet (fail)
      go_wp2_with fail
      go_meet
      case rel => exact ⟨by rw [HNB2.out], b, vs, P.out.drN _⟩
     ·obtain ⟨A', ⟨h0, g0⟩, hA'⟩ : ∃ A' t, A = A' ++ [t] := by
       rcases List.eq_nil_or_concat A with h | ⟨A', t, h⟩
       ·exact absurd h hA0
       ·exact ⟨A', t, by rw [h]; simp⟩
      obtain ⟨ka, hka⟩ : ∃ ka, ka = A'.length := ⟨_, rfl⟩
      have hk1 : k0 = ka + 1 := by rw [H.out.2.2.1, hA', hka]; simp
      have hLk : L[ka]? = some (h0, g0) := by rw [HL.out.1, hA', hka]; simp
      have hge : e < g0 := HL.out.2.1 (h0, g0) (by rw [hA']; simp)
      obtain ⟨bb, oo, rfl, hvs, hcs⟩ := HC.out hLk
      obtain ⟨p, hp⟩ : ∃ p, p = vs.idxOf (g0 : Int) := ⟨_, rfl⟩
      simp only [← hp] at hvs hcs
      have hkn : ka < n := by have := (List.getElem?_eq_some_iff.1 hLk).1; rw [H.out.2.1]; exact this
      have hkn' : (ka : Int) < (n : Int) := by omega
      have hk0' : (0 : Int) ≤ (ka : Int) := by omega
      have bK : decide ((0 : Int) < (k0 : Int)) = true := decide_eq_true (by omega)
      have hkp : (0 : Int) < (k0 : Int) := by omega
      have hkpn : 0 < k0 := by omega
      have bKn : decide (0 < k0) = true := decide_eq_true hkpn
      have hw3 : (k0 : Int) - 1 = (ka : Int) := by omega
      have hz1 : (0 : Int) ≤ (ka : Int) ∧ (ka : Int) ≤ 1000000000 := by omega
      have hw4 : wrap64 (ka : Int) = (ka : Int) := small_w64 hz1.1 hz1.2
      have hw5 : IntKind.i64.wrap (ka : Int) = (ka : Int) := small_i64 hz1.1 hz1.2
      have hw1 : wrap64 ((k0 : Int) - 1) = (ka : Int) := (congrArg wrap64 hw3).trans hw4
      have hw2 : IntKind.i64.wrap ((k0 : Int) - 1) = (ka : Int) := (congrArg IntKind.i64.wrap hw3).trans hw5
      have HNX : Sealed (RNext U e) := ⟨HI.out.1 e (asks_less (List.mem_of_getElem? hLk) hge)⟩
      have hnb : ∀ {vs1 : List Int} {j : Nat}, vs1.Nodup → vs <+: vs1 → vs1[j]? = some ((e : Int) + 1) → ((j : Int) == (p : Int)) = nb := fun {vs1 j} hnd hpre hj => by
       have h1 := place_iff hnd hj (pre_get hpre hvs)
       have h2 : nb = true ↔ g0 = e + 1 := by
        rw [HNB.out]
        constructor
        ·rintro ⟨A2, h2, hh⟩
         rw [hA'] at hh
         have := List.append_inj' hh rfl
         simp at this
         exact this.2.2
        ·rintro rfl; exact ⟨A', h0, hA'⟩
       rw [Bool.eq_iff_iff, h2]
       simp only [beq_iff_eq]
       constructor
       ·intro h
        have := h1.1 (by omega)
        omega
       ·intro h
        have := h1.2 (by omega)
        omega
      have HNB2 := Sealed.mk @hnb
      have HCS := Sealed.mk @hcs
      clear hnb hcs hvs hp hge hLk hka hA' hA0 hk1
      replace P := Sealed.mk P.out.dr
      go_region_held3 (fun W' => W'.cell? ⟨w.heap.size, 1, none⟩ = some (.int .i64 (i : Int)) ∧ W'.cell? ⟨bb, oo + ka * 2 + 1, none⟩ = some (.int .i64 (p : Int)))
       (exact ⟨(HK.out P.out).2.1, (HCS.out P.out).2⟩)
       (first
        | (go_at_call 68; go_must ((with_reducible refine (HNX.out.call P.out.inv (pre_get P.out.pre H.out.1)).mono ?_); rintro e2 w2 ⟨vs1, b1, j1, rfl, hj1, hs1⟩; replace P := Sealed.mk (P.out.trans hs1); have hjb := HNB2.out P.out.inv.cl.nodup P.out.pre hj1; clear hj1 hs1)))
      all_goals
       go_wp2_with fail
       go_meet
       case rel => exact ⟨by first | rfl | (rw [hjb]), b1, vs1, P.out⟩
    case rest =>
     obtain ⟨rfl, b1, vs1, hst⟩ := hcut
     obtain ⟨W2, hW2⟩ : ∃ W2, W2 = wc := ⟨_, rfl⟩
     rw [← hW2] at hst ⊢
     clear hW2
     replace P := Sealed.mk hst; clear hst
     rcases nb with _ | _
     ·have hAl : ∀ s ∈ A, e + 2 ≤ s.2 := fun s hs => by
       have h1 := HL.out.2.1 s hs
       by_cases h2 : s.2 = e + 1
       ·exfalso
        obtain ⟨A1, A2, hA12⟩ := List.append_of_mem hs
        have hA2 : A2 = [] := by
         cases A2 with
         | nil => rfl
         | cons t A2 =>
           have hg := HG.out
           rw [HL.out.1] at hg
           have hg1 := (gap_app.1 hg).1
           rw [hA12] at hg1
           have h3 := (gap_cons.1 (gap_app.1 hg1).2.1).1 t (by simp)
           have h4 := HL.out.2.1 t (by rw [hA12]; simp)
           omega
        have := HNB.out.2 ⟨A1, s.1, by rw [hA12, hA2, ← h2]⟩
        cases this
       ·omega
      have HAL := Sealed.mk hAl; clear hAl HNB
      have hw20 := P.out.ext.size
      have hle1 : (encL vs1 L).length = n := by rw [encL_length, H.out.2.1]
      have HLE1 := Sealed.mk hle1; clear hle1
      go_upto_region 16 with (at_builtin; go_must (refine ap_rtl (l2 := encL vs1 L) (.tmp 123) (.tmp 124) rfl rfl rfl (own_empty (Nat.le_refl _) _ rfl) rfl (HK.out (P.out.adv (r_al (Below.refl _ _)))).2.2.2 ?g1 ?g2 ?g3))
      case g1 => rw [HLE1.out]; omega
      case g2 => simp
      case g3 =>
       intro v3 w3 hown3 hg3 _
       have hb3 : Below W2.heap.size W2 w3 := ((Below.refl _ _).alloc (Nat.le_refl _) _).grown hg3 (by simp) fun q hq => Nat.le_of_eq (Option.some.inj hq)
       have hown3' : w3.ownsRow W2.heap.size 49 2 v3 n (tcells (encL vs1 L)) := by
        have := hown3
        try rw [HLE1.out] at this
        simpa using this
       replace hown3 := hown3'
       clear hown3'
       have hnm : ∀ k, v3.ownBlock = some k → ¬ b1.M k := fun k hk hM => by
        have h1 := own_ge hown3 k hk
        have h2 := P.out.inv.lt k hM
        omega
       have hnf : ∀ k, v3.ownBlock = some k → ¬ InForms w3 b1 vs1 k := fun k hk hM => by
        have h1 := own_ge hown3 k hk
        have h2 := (P.out.inv.inForms (inForms_below P.out.inv hb3 hM)).1
        omega
       have HNF := Sealed.mk hnf; clear hnf
       have HO := Sealed.mk (And.intro hown3 hnm)
       replace P := Sealed.mk (P.out.adv hb3)
       have Q := Sealed.mk (RStep.refl P.out.inv)
       have hs3 : W2.heap.size ≤ w3.heap.size := hb3.size
       have HW20 : Sealed (W0.heap.size ≤ W2.heap.size) := ⟨hw20⟩
       clear hown3 hnm hg3 hb3
       go_upto_region 16 with fail
       obtain ⟨nb, hnb⟩ : ∃ nb : Bool, nb = true ↔ ∃ n1 f B', e = f + 1 ∧ B = (n1, f) :: B' := by
        by_cases h : ∃ n1 f B', e = f + 1 ∧ B = (n1, f) :: B'
        ·exact ⟨true, by simpa using h⟩
        ·exact ⟨false, by simp only [Bool.false_eq_true, false_iff]; exact h⟩
       have HNB := Sealed.mk hnb; clear hnb
       go_cut [141] from 126 to 141 (fun tv wx => tv = .bool nb ∧ ∃ b2 vs2, RStep U w3 wx b1 b2 vs1 vs2)
       case first =>
        by_cases hkn : k0 < n
        ·obtain ⟨⟨n1, f⟩, hs⟩ : ∃ s, L[k0]? = some s := ⟨_, List.getElem?_eq_getElem (by have := H.out.2.1; omega)⟩
         obtain ⟨B', rfl⟩ : ∃ B', B = (n1, f) :: B' := by
          have h1 := hs
          rw [HL.out.1, List.getElem?_append_right (by have := H.out.2.2.1; omega)] at h1
          cases B with
          | nil => simp at h1
          | cons t B' =>
            have h2 : k0 - A.length = 0 := by have := H.out.2.2.1; omega
            rw [h2] at h1
            simp at h1
            exact ⟨B', by rw [h1]⟩
         obtain ⟨bb, oo, rfl, hvs, hcs⟩ := HC.out hs
         obtain ⟨p, hp⟩ : ∃ p, p = vs.idxOf (f : Int) := ⟨_, rfl⟩
         simp only [← hp] at hvs hcs
         have hkn' : (k0 : Int) < (n : Int) := by omega
         have bK : decide ((k0 : Int) < (n : Int)) = true := decide_eq_true hkn'
         have bKn : decide (k0 < n) = true := decide_eq_true hkn
         have hfe : f + 1 ≤ e := HB.out (n1, f) (by simp)
         have HNX : Sealed (RNext U f) := ⟨HI.out.1 f (asks_mem (s := (n1, f)) (List.mem_of_getElem? hs))⟩
         have hnb : ∀ {vs2 : List Int} {j : Nat}, vs2.Nodup → vs <+: vs2 → vs2[j]? = some ((f : Int) + 1) → ((j : Int) == (i : Int)) = nb := fun {vs2 j} hnd hpre hj => by
          have h1 := place_iff hnd hj (pre_get hpre H.out.1)
          have h2 : nb = true ↔ e = f + 1 := by
           rw [HNB.out]
           constructor
           ·rintro ⟨n2, f2, B2, h2, hh⟩
            simp only [List.cons.injEq, Prod.mk.injEq] at hh
            omega
           ·intro h; exact ⟨n1, f, B', h, rfl⟩
          rw [Bool.eq_iff_iff, h2]
          simp only [beq_iff_eq]
          constructor
          ·intro h
           have := h1.1 (by omega)
           omega
          ·intro h
           have := h1.2 (by omega)
           omega
         have HNB2 := Sealed.mk @hnb
         have HCS := Sealed.mk @hcs
         have HVS := Sealed.mk hvs
         clear hnb hcs hvs hp hs hfe
         replace P := Sealed.mk P.out.dr
         replace Q := Sealed.mk Q.out.dr
         go_region_held3 (fun W' => W'.cell? ⟨w.heap.size, 1, none⟩ = some (.int .i64 (i : Int)) ∧ W'.cell? ⟨bb, oo + k0 * 2 + 1, none⟩ = some (.int .i64 (p : Int)))
          (exact ⟨(HK.out P.out).2.1, (HCS.out P.out).2⟩)
          (first
           | (go_at_call 68; go_must (have hq := RNext.call HNX.out P.out.inv (pre_get P.out.pre HVS.out); rw [P.out.p] at hq; (with_reducible refine hq.mono ?_); clear hq; rintro e2 w4 ⟨vs2, b2, j1, rfl, hj1, hs1⟩; replace P := Sealed.mk (P.out.trans hs1); replace Q := Sealed.mk (Q.out.trans hs1); have hjb := HNB2.out P.out.inv.cl.nodup P.out.pre hj1; clear hj1 hs1)))
         all_goals
          go_wp2_with fail
          go_meet
          case rel => exact ⟨by first | rfl | (rw [hjb]), b2, vs2, Q.out⟩
        ·have hnb : nb = false := by
          cases hq : nb
          ·rfl
          ·obtain ⟨n1, f, B', -, hh⟩ := HNB.out.1 hq
           exfalso
           have h1 := H.out.2.1
           have h2 := H.out.2.2.1
           rw [HL.out.1, hh] at h1
           simp at h1
           omega
         have HNB2 := Sealed.mk hnb; clear hnb
         have hkn' : ¬ (k0 : Int) < (n : Int) := by omega
         have bK : decide ((k0 : Int) < (n : Int)) = false := decide_eq_false hkn'
         have bKn : decide (k0 < n) = false := decide_eq_false hkn
         go_wp2_with fail
         go_quiet (fail)
         go_wp2_with fail
         go_meet
         case rel => exact ⟨by rw [HNB2.out], b1, vs1, Q.out.drN _⟩
       case rest =>
        obtain ⟨rfl, b2, vs2, hst⟩ := hcut
        obtain ⟨W4, hW4⟩ : ∃ W4, W4 = wc := ⟨_, rfl⟩
        rw [← hW4] at hst ⊢
        clear hW4
        have hown4 : W4.ownsRow W2.heap.size 49 2 v3 n (tcells (encL vs1 L)) := own_ext HO.out.1 hst.ext HO.out.2
        have hnm4 : ∀ k, v3.ownBlock = some k → ¬ b2.M k := fun k hk => hst.notM (HO.out.1.lt k hk).2 (HO.out.2 k hk)
        have hnf4 : ∀ k, v3.ownBlock = some k → ¬ InForms W4 b2 vs2 k := fun k hk hM => by
         rcases hst.forms k hM with h1 | h1
         ·exact HNF.out k hk h1
         ·have := (HO.out.1.lt k hk).2; omega
        replace HNF := Sealed.mk hnf4
        clear hnf4
        have hcv1 : CovL vs1 L := H.out.2.2.2.1.pre P.out.pre
        have hpre2 := hst.pre
        have hs4 : W2.heap.size ≤ W4.heap.size := Nat.le_trans hs3 hst.ext.size
        rw [← encL_prefix hst.pre hcv1] at hown4
        replace P := Sealed.mk (P.out.trans hst)
        have HO4 := Sealed.mk (And.intro hown4 hnm4)
        clear hown4 hnm4 hst HO Q hcv1 hpre2
        have hn2 : (encL vs2 L).length = n := by rw [encL_length, H.out.2.1]
        rcases nb with _ | _
        ·have hBl2 : ∀ s ∈ B, s.2 + 2 ≤ e := fun s hs => by
          cases B with
          | nil => simp at hs
          | cons t B' =>
            have h1 := HB.out t (by simp)
            have h2 : t.2 + 1 ≠ e := fun h => by
             have := HNB.out.2 ⟨t.1, t.2, B', h.symm, rfl⟩
             cases this
            rcases List.mem_cons.1 hs with rfl | hs
            ·omega
            ·have hg := HG.out
             rw [HL.out.1] at hg
             have h3 := (gap_cons.1 (gap_app.1 hg).2.1).1 s hs
             omega
         have hgf := HG.out
         rw [HL.out.1] at hgf
         have hff := pls_put (m := m) hgf HAL.out hBl2
         have hrt : ∀ W', Below W4.heap.size W4 W' → RTL W' (.slice a n c) (encL vs2 A ++ encL vs2 B) := fun W' hb => by
          rw [← encL_app, ← HL.out.1]; exact (HK.out (P.out.adv hb)).2.2.2
         have hlenA : (encL vs2 A).length = k0 := by rw [encL_length, H.out.2.2.1]
         have hlenB : (encL vs2 B).length = n - k0 := by
          rw [encL_length]
          have h1 := H.out.2.1
          have h2 := H.out.2.2.1
          rw [HL.out.1, List.length_append] at h1
          omega
         have HFF := Sealed.mk (And.intro hff (And.intro hrt (And.intro hlenA hlenB)))
         clear hBl2 hgf hff hrt hlenA hlenB HNB
         have haa : (∃ ab ao, a = some ⟨ab, ao, none⟩) ∨ (L = [] ∧ a = none) ∨ (L = [] ∧ ∃ p, a = some p) := by
          by_cases hL : L = []
          ·rcases a with _ | pa
           ·exact .inr (.inl ⟨hL, rfl⟩)
           ·exact .inr (.inr ⟨hL, pa, rfl⟩)
          ·obtain ⟨t, ht⟩ : ∃ t, L[0]? = some t := ⟨_, List.getElem?_eq_getElem (List.length_pos_iff.2 hL)⟩
           obtain ⟨bb, oo, h, -⟩ := HC.out ht
           exact .inl ⟨bb, oo, h⟩
         have HAA := Sealed.mk haa
         clear haa
         have f1 : (k0 : Int) ≤ (c : Int) := by omega
         have f2 : (0 : Int) ≤ (k0 : Int) := by omega
         have f3 : (k0 : Int) ≤ (n : Int) := by omega
         go_upto_region 22 with fail
         go_cut [10] from 173 to 180 (fun tv wx => wx.ownsRow W4.heap.size 49 2 tv (k0 + 1) (tcells (encL vs2 A) ++ [.bool m, .int .i64 (i : Int)]) ∧ Below W4.heap.size W4 wx)
         case first =>
          have PD := Sealed.mk (Below.refl W4.heap.size W4)
          rcases HAA.out with ⟨ab, ao, rfl⟩ | ⟨h0, rfl⟩ | ⟨h0, pa, rfl⟩
          all_goals
           go_region_held3 (fun W' => W'.cell? ⟨w.heap.size, 0, none⟩ = some (.bool m) ∧ W'.cell? ⟨w.heap.size, 1, none⟩ = some (.int .i64 (i : Int)))
            (first
             | exact ⟨(HK.out (P.out.adv (r_dr PD.out))).1, (HK.out (P.out.adv (r_dr PD.out))).2.1⟩
             | exact ⟨(HK.out (P.out.adv (r_dr (r_al PD.out)))).1, (HK.out (P.out.adv (r_dr (r_al PD.out)))).2.1⟩
             | exact ⟨(HK.out (P.out.adv (r_dr (r_al (r_al PD.out))))).1, (HK.out (P.out.adv (r_dr (r_al (r_al PD.out))))).2.1⟩
             | exact ⟨(HK.out (P.out.adv P5.out.1)).1, (HK.out (P.out.adv P5.out.1)).2.1⟩
             | exact ⟨(HK.out (P.out.adv (r_al P5.out.1))).1, (HK.out (P.out.adv (r_al P5.out.1))).2.1⟩
             | exact ⟨(HK.out (P.out.adv P6.out.1)).1, (HK.out (P.out.adv P6.out.1)).2.1⟩
             | fail)
            (first
             | (refine step_ap_rtl (B := W4.heap.size) (l2 := encL vs2 A) (.tmp 173) (.tmp 176) rfl rfl rfl (by first | exact own_empty (Nat.le_refl _) _ rfl | exact (own_empty (Nat.le_refl _) _ rfl).alloc _ | exact own_empty_at (w := W4.alloc _) (by simp) (by simp) _ rfl) rfl (by refine RTL.head (HFF.out.2.1 _ ?_) HFF.out.2.2.1.symm; repeat (first | exact Below.refl _ _ | refine r_dr ?_ | refine r_al ?_)) (by rw [HFF.out.2.2.1]; omega) (by simp <;> omega) ?_; go_must (intro v5 w5 ho5 hg5 _; have hb5 : Below W4.heap.size W4 w5 := (Below.grown (by repeat (first | exact Below.refl _ _ | refine r_dr ?_ | refine r_al ?_)) hg5 (by simp <;> omega) (fun q hq => by have h := Option.some.inj hq; first | exact Nat.le_of_eq h | (rw [← h]; simp <;> omega))); have ho5' : w5.ownsRow W4.heap.size 49 2 v5 k0 (tcells (encL vs2 A)) := (by have := ho5; rw [HFF.out.2.2.1] at this; simpa using this); have P5 := Sealed.mk (And.intro hb5 (And.intro ho5' hg5)); clear hb5 ho5 ho5' hg5))
             | (refine step_ap_term (B := W4.heap.size) el_rterm (.tmp 177) (.tmp 179) rfl rfl rfl P5.out.2.1 rfl rfl rfl rfl (by omega) P5.out.1.size ?_; go_must (intro g6 c6 w6 ho6 hg6 _; have hb6 : Below W4.heap.size W4 w6 := ((r_al P5.out.1).grown hg6 (Nat.le_trans P5.out.1.size (by simp)) (fun q hq => own_ge P5.out.2.1 q hq)); have P6 := Sealed.mk (And.intro hb6 ho6); clear hb6 ho6 hg6))
             | (refine step_ap_blk (B := W4.heap.size) (m := 1) (news := [.bool m, .int .i64 (i : Int)]) el_rterm (.tmp 177) (.tmp 179) rfl rfl rfl P5.out.2.1 rfl rfl (by first | exact lit_reads ((P5.out.2.2.block (W4.heap.size + 1) (by simp) (fun e => absurd (Option.some.inj (show some (W4.heap.size + 1) = some W4.heap.size from e)) (by omega))).trans (blk_alloc_at _ _ (by simp))) | exact lit_reads ((P5.out.2.2.block W4.heap.size (by simp <;> omega) (fun e => absurd (Option.some.inj (show some W4.heap.size = some (W4.heap.size + 1) from e)) (by omega))).trans (blk_alloc_old (blk_alloc _ _) _))) (by simp [Value.oneCell']) (by decide) (by omega) P5.out.1.size ?_; go_must (intro g6 c6 w6 ho6 hg6 _; have hb6 : Below W4.heap.size W4 w6 := (P5.out.1.grown hg6 P5.out.1.size (fun q hq => own_ge P5.out.2.1 q hq)); have P6 := Sealed.mk (And.intro hb6 ho6); clear hb6 ho6 hg6)))
           all_goals
            go_wp2_with fail
            go_meet
            case rel => exact ⟨P6.out.2, P6.out.1⟩
         case rest =>
          obtain ⟨hox, hbx⟩ := hcut
          obtain ⟨W5, hW5⟩ : ∃ W5, W5 = wc := ⟨_, rfl⟩
          rw [← hW5] at hox hbx ⊢
          clear hW5
          have HOX := Sealed.mk (And.intro hox hbx); clear hox hbx
          have hs5 := HOX.out.2.size
          rcases HAA.out with ⟨ab, ao, rfl⟩ | ⟨h0, rfl⟩ | ⟨h0, pa, rfl⟩
          all_goals
           by_cases hck : c = k0
           all_goals
            go_wp2_with (at_builtin; go_must (refine ap_rtl (B := W4.heap.size) (l2 := encL vs2 B) (.tmp 181) (.tmp 184) rfl rfl rfl HOX.out.1 rfl ?r1 (by rw [HFF.out.2.2.2]; omega) hs5 ?r4))
            case r1 =>
             refine RTL.tail (HFF.out.2.1 _ HOX.out.2) HFF.out.2.2.1.symm ?_ ?_ ?_ ?_
             ·first | exact HFF.out.2.2.2.symm | (rw [HFF.out.2.2.2]; omega)
             ·first | rfl | omega
             ·intro hne bb o he
              first
               | (cases he; rfl)
               | (cases he; unfold Addr.add; split <;> simp_all; done)
               | exact absurd (List.eq_nil_of_length_eq_zero (by rw [HFF.out.2.2.2]; omega)) hne
               | cases he
             ·intro q hq
              exact (HFF.out.2.1 _ HOX.out.2).lt q (by first | exact hq | (simpa [Value.ownBlock, Addr.add] using hq) | (have hq2 := hq; simp only [Value.ownBlock, Addr.add] at hq2 ⊢; split at hq2 <;> exact hq2))
            case r4 =>
             intro v6 w6 ho6 hg6 _
             have hb6 : Below W4.heap.size W4 w6 := HOX.out.2.grown hg6 hs5 (fun q hq => own_ge HOX.out.1 q hq)
             have H6 := Sealed.mk (And.intro ho6 hb6); clear ho6 hg6 hb6
             go_wp2_with fail
             go_ret
             have hix : vs2.idxOf (e : Int) = i := idxOf_of P.out.inv.cl.nodup (pre_get P.out.pre H.out.1)
             have hll : (encL vs2 (A ++ (m, e) :: B)).length = k0 + 1 + (encL vs2 B).length := by rw [encL_mid, List.length_append, List.length_cons, HFF.out.2.2.1]; omega
             have htc : tcells (encL vs2 (A ++ (m, e) :: B)) = tcells (encL vs2 A) ++ .bool m :: .int .i64 (i : Int) :: tcells (encL vs2 B) := by rw [encL_mid, tcells_append]; simp only [tcells, hix]
             have hrt : w6.ownsRow W4.heap.size 49 2 v6 (encL vs2 (A ++ (m, e) :: B)).length (tcells (encL vs2 (A ++ (m, e) :: B))) := by
              rw [hll, htc]
              have := H6.out.1
              simpa using this
             have hcv := H.out.2.2.2.1.pre P.out.pre
             refine ⟨vs2, b2, v6, rfl, ?_, ?_, HF.out (P.out.adv H6.out.2)⟩
             ·rw [HL.out.1, HFF.out.1]
              exact RTL.of_own hrt (by rw [hll, HFF.out.2.2.2]; omega)
             ·rw [HL.out.1, HFF.out.1]
              rw [HL.out.1] at hcv
              intro t ht
              simp at ht
              rcases ht with ht | rfl | ht
              ·exact hcv t (by simp [ht])
              ·exact List.mem_of_getElem? (pre_get P.out.pre H.out.1)
              ·exact hcv t (by simp [ht])
        ·obtain ⟨n1, f, B', rfl, rfl⟩ := HNB.out.1 rfl
         have hLk : L[k0]? = some (n1, f) := by rw [HL.out.1, H.out.2.2.1]; simp
         obtain ⟨bb, oo, rfl, -, hcs⟩ := HC.out hLk
         have hkn : k0 < n := by have := (List.getElem?_eq_some_iff.1 hLk).1; rw [H.out.2.1]; exact this
         have hkn' : (k0 : Int) < (n : Int) := by omega
         obtain ⟨g, cap, rfl⟩ := own_form HO4.out.1 (by omega)
         have hgw : W0.heap.size ≤ g := by
          have h1 := (HO4.out.1.lt g rfl).1
          have h2 := P.out.ext.size
          have h3 := HG.out
          exact Nat.le_trans (HW20.out) h1
         have hset : ∀ z : Bool, (tcells (encL vs2 L)).set (k0 * 2) (.bool z) = tcells (encL vs2 (A ++ (z, f) :: B')) := fun z => by
          have h1 : (encL vs2 L)[k0]? = some (n1, vs2.idxOf (f : Int)) := by simp [encL, hLk]
          rw [← tcells_set1 _ _ z _ h1, HL.out.1, encL_mid, encL_mid, List.set_append_right _ _ (by rw [encL_length, H.out.2.2.1]; exact Nat.le_refl _)]
          have h2 : k0 - (encL vs2 A).length = 0 := by rw [encL_length, H.out.2.2.1]; omega
          rw [h2]; rfl
         have HSET := Sealed.mk hset
         have HGW := Sealed.mk hgw
         have HCS := Sealed.mk @hcs
         clear hset hgw hcs hLk
         go_upto_region 17 with fail
         have c0 := (HCS.out P.out).1
         have t0 := (HK.out P.out).1
         by_cases hh : n1 = m
         ·obtain rfl : m = n1 := hh.symm
          clear hh
          go_quiet (fail)
          go_upto_region 18 with fail
          generalize hW5 : World.drewN _ _ = W5
          have hb5 : Below W4.heap.size W4 W5 := by rw [← hW5]; exact ⟨rfl, rfl, rfl, Nat.le_refl _, fun _ _ => rfl⟩
          have hnf5 := fun hq => HNF.out g rfl (inForms_below P.out.inv hb5 hq)
          have hown5 : W5.ownsRow W2.heap.size 49 2 (.slice (some ⟨g, 0, none⟩) n cap) n (tcells (encL vs2 L)) := own_ext HO4.out.1 (Ext.of_below (M := noB) hb5) (fun _ _ h => h)
          replace P := Sealed.mk (P.out.adv hb5)
          clear hW5 hb5 c0 t0
          have c0 := (HCS.out P.out).1
          have fz := own_free hown5 (b := g) rfl (k0 * 2)
          have hcg := own_cell hown5 (b := g) rfl (tcells_at _ k0 (m, vs2.idxOf (f : Int)) (by rw [HL.out.1, encL_mid, List.getElem?_append_right (by rw [encL_length, H.out.2.2.1]; exact Nat.le_refl _)]; rw [show k0 - (encL vs2 A).length = 0 by rw [encL_length, H.out.2.2.1]; omega]; rfl)).1
          have HO5 := Sealed.mk (And.intro hown5 hnf5)
          clear hown5 hnf5
          go_upto_region 21 with fail
          obtain ⟨W6, hW6⟩ : ∃ W6, W6 = W5.setCell ⟨g, k0 * 2, none⟩ (.bool (!m)) := ⟨_, rfl⟩
          have e6 : Ext (fun k => k = g) W5 W6 := by rw [hW6]; exact (Ext.refl (fun k => k = g) W5).setCell (p := ⟨g, k0 * 2, none⟩) (.inl rfl) _
          have hown6 : W6.ownsRow W2.heap.size 49 2 (.slice (some ⟨g, 0, none⟩) n cap) n (tcells (encL vs2 (A ++ (!m, f) :: B'))) := by
           rw [hW6, ← HSET.out (!m)]; exact own_set HO5.out.1 rfl (by omega) _
          replace P := Sealed.mk (P.out.put e6 (HO4.out.2 g rfl) HO5.out.2 HGW.out)
          rw [← hW6]
          clear hW6 e6 c0 fz hcg
          have hrtl : RTL W6 (.slice (some ⟨g, 0, none⟩) n cap) (encL vs2 (A ++ (!m, f) :: B')) := by
           have h1 : (encL vs2 (A ++ (!m, f) :: B')).length = n := by rw [← hn2, HL.out.1, encL_mid, encL_mid]; simp
           rw [← h1] at hown6
           have := RTL.of_own hown6 (by rw [h1]; omega)
           rwa [h1] at this
          have hcvf : CovL vs2 (A ++ (!m, f) :: B') := fun t ht => by
           have hc := H.out.2.2.2.1.pre P.out.pre
           rw [HL.out.1] at hc
           simp at ht
           rcases ht with ht | rfl | ht
           ·exact hc t (by simp [ht])
           ·exact hc (m, f) (by simp)
           ·exact hc t (by simp [ht])
          have hgf := HG.out
          rw [HL.out.1] at hgf
          have hns := HI.out.1
          have hih := HI.out.2 (A ++ (!m, f) :: B') m (f + 1 + 1)
          rw [HL.out.1] at hns hih
          have hih2 := fun {w b vs v i} => hih (cnt_carry A B' m (!m) f) (flip_gap hgf) (by simp) (fun q hq => hns q (asks_carry hq)) (w := w) (b := b) (vs := vs) (v := v) (i := i)
          have HIH := Sealed.mk @hih2
          have HNX : Sealed (RNext U (f + 1)) := ⟨hns (f + 1) (asks_up A B' m f)⟩
          have L6 : Sealed (RTL W6.drew (.slice (some ⟨g, 0, none⟩) n cap) (encL vs2 (A ++ (!m, f) :: B')) ∧ CovL vs2 (A ++ (!m, f) :: B')) := ⟨hrtl.below ⟨rfl, rfl, rfl, Nat.le_refl _, fun _ _ => rfl⟩, hcvf⟩
          replace P := Sealed.mk P.out.dr
          clear hns hih hih2 hrtl hcvf hgf hown6
          go_region_held3 (fun W' => W'.cell? ⟨w.heap.size, 0, none⟩ = some (.bool m) ∧ W'.cell? ⟨w.heap.size, 1, none⟩ = some (.int .i64 (i : Int)))
           (first
            | exact ⟨(HK.out P.out).1, (HK.out P.out).2.1⟩
            | exact ⟨(HK.out (P.out.trans R.out.2.2)).1, (HK.out (P.out.trans R.out.2.2)).2.1⟩)
           (first
            | (go_at_call 68; go_must (have hq := RNext.call HNX.out P.out.inv (pre_get P.out.pre H.out.1); rw [P.out.p] at hq; (with_reducible refine hq.mono ?_); clear hq; rintro e2 w6 ⟨vs4, b4, j1, rfl, hj1, hs1⟩; replace L6 := Sealed.mk (And.intro (L6.out.1.after L6.out.2 hs1 P.out.inv) (L6.out.2.pre hs1.pre)); replace P := Sealed.mk (P.out.trans hs1); have J1 : Sealed (vs4[j1]? = some ((f + 1 + 1 : Nat) : Int)) := ⟨by rw [hj1]; push_cast; rfl⟩; clear hj1 hs1))
            | (go_at_call 67; go_must (have hq := HIH.out P.out.inv L6.out.1 L6.out.2 J1.out; rw [P.out.p] at hq; (with_reducible refine hq.mono ?_); clear hq; rintro e3 w7 ⟨vs5, b5, v5, rfl, hl5, hc5, hs5⟩; have R := Sealed.mk (And.intro hl5 (And.intro hc5 hs5)); clear hl5 hc5 hs5)))
          all_goals
           go_wp2_with fail
           go_ret
           have hv : val L + tv (m, f + 1) = val (A ++ (!m, f) :: B') + tv (m, f + 1 + 1) := by rw [HL.out.1, pls_carry]
           exact ⟨vs5, b5, v5, rfl, by rw [hv]; exact R.out.1, by rw [hv]; exact R.out.2.1, HF.out (P.out.trans R.out.2.2)⟩
         ·have hmb : (n1 == m) = false := by simpa using hh
          have HHM := Sealed.mk hh; clear hh
          go_quiet (fail)
          go_upto_region 18 with fail
          generalize hW5 : World.drewN _ _ = W5
          have hb5 : Below W4.heap.size W4 W5 := by rw [← hW5]; exact ⟨rfl, rfl, rfl, Nat.le_refl _, fun _ _ => rfl⟩
          have hnf5 := fun hq => HNF.out g rfl (inForms_below P.out.inv hb5 hq)
          have hown5 : W5.ownsRow W2.heap.size 49 2 (.slice (some ⟨g, 0, none⟩) n cap) n (tcells (encL vs2 L)) := own_ext HO4.out.1 (Ext.of_below (M := noB) hb5) (fun _ _ h => h)
          replace P := Sealed.mk (P.out.adv hb5)
          clear hW5 hb5 c0 t0
          have c0 := (HCS.out P.out).1
          have fz := own_free hown5 (b := g) rfl (k0 * 2)
          have hcg := own_cell hown5 (b := g) rfl (tcells_at _ k0 (n1, vs2.idxOf (f : Int)) (by rw [HL.out.1, encL_mid, List.getElem?_append_right (by rw [encL_length, H.out.2.2.1]; exact Nat.le_refl _)]; rw [show k0 - (encL vs2 A).length = 0 by rw [encL_length, H.out.2.2.1]; omega]; rfl)).1
          have HO5 := Sealed.mk (And.intro hown5 hnf5)
          clear hown5 hnf5
          go_upto_region 20 with fail
          obtain ⟨W6, hW6⟩ : ∃ W6, W6 = W5.setCell ⟨g, k0 * 2, none⟩ (.bool (!n1)) := ⟨_, rfl⟩
          have e6 : Ext (fun k => k = g) W5 W6 := by rw [hW6]; exact (Ext.refl (fun k => k = g) W5).setCell (p := ⟨g, k0 * 2, none⟩) (.inl rfl) _
          have hown6 : W6.ownsRow W2.heap.size 49 2 (.slice (some ⟨g, 0, none⟩) n cap) n (tcells (encL vs2 (A ++ (!n1, f) :: B'))) := by
           rw [hW6, ← HSET.out (!n1)]; exact own_set HO5.out.1 rfl (by omega) _
          replace P := Sealed.mk (P.out.put e6 (HO4.out.2 g rfl) HO5.out.2 HGW.out)
          rw [← hW6]
          clear hW6 e6 c0 fz hcg
          have hrtl : RTL W6 (.slice (some ⟨g, 0, none⟩) n cap) (encL vs2 (A ++ (!n1, f) :: B')) := by
           have h1 : (encL vs2 (A ++ (!n1, f) :: B')).length = n := by rw [← hn2, HL.out.1, encL_mid, encL_mid]; simp
           rw [← h1] at hown6
           have := RTL.of_own hown6 (by rw [h1]; omega)
           rwa [h1] at this
          have hcvf : CovL vs2 (A ++ (!n1, f) :: B') := fun t ht => by
           have hc := H.out.2.2.2.1.pre P.out.pre
           rw [HL.out.1] at hc
           simp at ht
           rcases ht with ht | rfl | ht
           ·exact hc t (by simp [ht])
           ·exact hc (n1, f) (by simp)
           ·exact hc t (by simp [ht])
          have hgf := HG.out
          rw [HL.out.1] at hgf
          have hff := pls_flip (m := m) hgf (fun s hs => by have := HAL.out s hs; omega) HHM.out
          have HFIN := Sealed.mk (And.intro hrtl (And.intro hcvf hff))
          clear hrtl hcvf hgf hff hown6
          go_wp2_with fail
          go_ret
          exact ⟨vs2, b2, _, rfl, by rw [HL.out.1, HFIN.out.2.2]; exact HFIN.out.1, by rw [HL.out.1, HFIN.out.2.2]; exact HFIN.out.2.1, HF.out P.out⟩
     ·obtain ⟨A', h0, rfl⟩ := HNB.out.1 rfl
      obtain ⟨ka, hka⟩ : ∃ ka, ka = A'.length := ⟨_, rfl⟩
      have hk1 : k0 = ka + 1 := by rw [H.out.2.2.1, hka]; simp
      have hLk : L[ka]? = some (h0, e + 1) := by rw [HL.out.1, hka]; simp
      obtain ⟨bb, oo, rfl, hvs, hcs⟩ := HC.out hLk
      obtain ⟨p, hp⟩ : ∃ p, p = vs.idxOf ((e + 1 : Nat) : Int) := ⟨_, rfl⟩
      simp only [← hp] at hvs hcs
      have hkn : ka < n := by have := (List.getElem?_eq_some_iff.1 hLk).1; rw [H.out.2.1]; exact this
      have hkn' : (ka : Int) < (n : Int) := by omega
      have hk0' : (0 : Int) ≤ (ka : Int) := by omega
      have hw3 : (k0 : Int) - 1 = (ka : Int) := by omega
      have hz1 : (0 : Int) ≤ (ka : Int) ∧ (ka : Int) ≤ 1000000000 := by omega
      have hw4 : wrap64 (ka : Int) = (ka : Int) := small_w64 hz1.1 hz1.2
      have hw5 : IntKind.i64.wrap (ka : Int) = (ka : Int) := small_i64 hz1.1 hz1.2
      have hw1 : wrap64 ((k0 : Int) - 1) = (ka : Int) := (congrArg wrap64 hw3).trans hw4
      have hw2 : IntKind.i64.wrap ((k0 : Int) - 1) = (ka : Int) := (congrArg IntKind.i64.wrap hw3).trans hw5
      clear hk1
      have c0 := (hcs P.out).1
      have c1 := (hcs P.out).2
      have hLe : L = A' ++ (h0, e + 1) :: B := by rw [HL.out.1]; simp
      have hg := HG.out
      have hns := HI.out.1
      have hih := HI.out.2
      have hcv := H.out.2.2.2.1
      rw [hLe] at hg hns hih hcv
      have hgs := pls_sub hg
      have haA : ∀ s ∈ A', e + 3 ≤ s.2 := fun s hs => by
       have := (gap_app.1 hg).2.2 s hs (h0, e + 1) (by simp)
       simp only at this; omega
      have hih2 := fun (m' : Bool) {w b vs v i} => hih (A' ++ B) m' e (cnt_half A' B h0 e) hgs (by simp) (fun q hq => hns q (asks_half hq)) (w := w) (b := b) (vs := vs) (v := v) (i := i)
      have HIH := Sealed.mk @hih2
      have HNX : Sealed (RNext U (e + 1)) := ⟨hns (e + 1) (asks_mem (s := (h0, e + 1)) (by simp))⟩
      have HTH := Sealed.mk (And.intro haA (And.intro hgs (And.intro hns hih)))
      have HCV := Sealed.mk (show CovL vs (A' ++ B) from hcv.sub fun t ht => by simp at ht ⊢; rcases ht with ht | ht <;> simp [ht])
      have HLE := Sealed.mk (And.intro hLe (And.intro hka hvs))
      clear hLe hg hns hih hih2 hcv hgs haA hLk hvs hka hp
      go_upto_region 10 with fail
      obtain ⟨W3, hW3⟩ : ∃ W3, W3 = W2.alloc (.cells #[.bool h0, .int .i64 (p : Int)] 49) := ⟨_, rfl⟩
      have hb3 : Below W2.heap.size W2 W3 := by rw [hW3]; exact (Below.refl _ _).alloc (Nat.le_refl _) _
      have kb3 : W3.heap[W2.heap.size]? = some (.cells #[.bool h0, .int .i64 (p : Int)] 49 (0, 0)) := by rw [hW3]; exact blk_alloc _ _
      have hnm : ¬ b1.M W2.heap.size := fun h' => by have := P.out.inv.lt _ h'; omega
      rw [← hW3]
      clear hW3 c0 c1
      have hk8 : ∀ {W : World} {b2 : RB} {vs2 : List Int}, RStep U W3 W b1 b2 vs1 vs2 → W.cell? ⟨W2.heap.size, 0, none⟩ = some (.bool h0) ∧ W.cell? ⟨W2.heap.size, 1, none⟩ = some (.int .i64 (p : Int)) := fun {W b2 vs2} st => by
       have hbk := (st.ext.block _ (lt_of_blk kb3) hnm).trans kb3
       exact ⟨(cell_of_blk hbk 0).trans rfl, (cell_of_blk hbk 1).trans rfl⟩
      have HK8 := Sealed.mk @hk8
      replace P := Sealed.mk (P.out.adv hb3)
      have Q := Sealed.mk (RStep.refl P.out.inv)
      clear hk8 hnm kb3 hb3
      have hrt := (HK.out P.out).2.2.2
      rw [HLE.out.1] at hrt
      have HRT := Sealed.mk hrt; clear hrt
      go_upto_region 11 with (go_at_call 97; go_must ((with_reducible refine (r_without HRT.out HLE.out.2.1 P.out.inv).mono ?_); rintro e1 w4 ⟨v1, rfl, hl1, hb1⟩; replace P := Sealed.mk (P.out.adv hb1); replace Q := Sealed.mk (Q.out.adv hb1); have L2 := Sealed.mk hl1; clear hl1 hb1))
      have t0 := (HK.out P.out).1
      have t1 := (HK.out P.out).2.1
      have k0' := (HK8.out Q.out).1
      have k1' := (HK8.out Q.out).2
      clear HRT
      by_cases hh : h0 = m
      ·obtain rfl : m = h0 := hh.symm
       clear hh
       go_upto_region 14 with (go_at_call 67; go_must (have hq := HIH.out (!m) P.out.inv L2.out (HCV.out.pre P.out.pre) (pre_get P.out.pre H.out.1); rw [P.out.p] at hq; (with_reducible refine hq.mono ?_); clear hq; rintro e3 w5 ⟨vs3, b3, v3, rfl, hl3, hc3, hs3⟩; replace P := Sealed.mk (P.out.trans hs3); replace Q := Sealed.mk (Q.out.trans hs3); have L3 := Sealed.mk (And.intro hl3 hc3); clear hl3 hc3 hs3))
       clear t0 t1 k0' k1' L2
       have hthree := three_all (m := m) HTH.out.1 HB.out HTH.out.2.1
       have hih0 := HTH.out.2.2.2
       have hih3 := fun {w b vs v i} => hih0 (form (val (A' ++ B) + tv (!m, e))) m (e + 1 + 1) hthree.1 (gap_form _) hthree.2.1 (fun q hq => HTH.out.2.2.1 q (hthree.2.2 q hq)) (w := w) (b := b) (vs := vs) (v := v) (i := i)
       have HIH3 := Sealed.mk @hih3
       clear hthree hih3 hih0
       obtain ⟨Y, hY⟩ : ∃ Y, Y = form (val (A' ++ B) + tv (!m, e)) := ⟨_, rfl⟩
       have hYv : val Y = val (A' ++ B) + tv (!m, e) := by rw [hY, val_form]
       rw [← hY] at L3 HIH3
       have HY := Sealed.mk hYv
       clear hY hYv
       replace P := Sealed.mk P.out.dr
       replace Q := Sealed.mk Q.out.dr
       replace L3 : Sealed (RTL w5.drew v3 (encL vs3 Y) ∧ CovL vs3 Y) := ⟨L3.out.1.below ⟨rfl, rfl, rfl, Nat.le_refl _, fun _ _ => rfl⟩, L3.out.2⟩
       go_region_held3 (fun W' => W'.cell? ⟨w.heap.size, 0, none⟩ = some (.bool m) ∧ W'.cell? ⟨W2.heap.size, 1, none⟩ = some (.int .i64 (p : Int)))
        (first
         | exact ⟨(HK.out P.out).1, (HK8.out Q.out).2⟩
         | exact ⟨(HK.out (P.out.trans R.out.2.2)).1, (HK8.out (Q.out.trans R.out.2.2)).2⟩)
        (first
         | (go_at_call 68; go_must (have hq := RNext.call HNX.out P.out.inv (pre_get P.out.pre HLE.out.2.2); rw [P.out.p] at hq; (with_reducible refine hq.mono ?_); clear hq; rintro e2 w6 ⟨vs4, b4, j1, rfl, hj1, hs1⟩; replace L3 := Sealed.mk (And.intro (L3.out.1.after L3.out.2 hs1 P.out.inv) (L3.out.2.pre hs1.pre)); replace P := Sealed.mk (P.out.trans hs1); replace Q := Sealed.mk (Q.out.trans hs1); have J1 : Sealed (vs4[j1]? = some ((e + 1 + 1 : Nat) : Int)) := ⟨by rw [hj1]; push_cast; rfl⟩; clear hj1 hs1))
         | (go_at_call 67; go_must (have hq := HIH3.out P.out.inv L3.out.1 L3.out.2 J1.out; rw [P.out.p] at hq; (with_reducible refine hq.mono ?_); clear hq; rintro e3 w7 ⟨vs5, b5, v5, rfl, hl5, hc5, hs5⟩; have R := Sealed.mk (And.intro hl5 (And.intro hc5 hs5)); clear hl5 hc5 hs5)))
       all_goals
        go_wp2_with fail
        go_ret
        have hv : val L + tv (m, e) = val Y + tv (m, e + 1 + 1) := by rw [HLE.out.1, HY.out, pls_three]
        exact ⟨vs5, b5, v5, rfl, by rw [hv]; exact R.out.1, by rw [hv]; exact R.out.2.1, HF.out (P.out.trans R.out.2.2)⟩
      ·have hmb : (h0 == m) = false := by simpa using hh
       have HHM := Sealed.mk hh; clear hh
       go_wp2_with (go_at_call 67; go_must (have hq := HIH.out h0 P.out.inv L2.out (HCV.out.pre P.out.pre) (pre_get P.out.pre H.out.1); rw [P.out.p] at hq; (with_reducible refine hq.mono ?_); clear hq; rintro e3 w5 ⟨vs3, b3, v3, rfl, hl3, hc3, hs3⟩; have R := Sealed.mk (And.intro hl3 (And.intro hc3 hs3)); clear hl3 hc3 hs3))
       go_ret
       have hv : val L + tv (m, e) = val (A' ++ B) + tv (h0, e) := by rw [HLE.out.1, pls_half A' B h0 HHM.out]
       exact ⟨vs3, b3, v3, rfl, by rw [hv]; exact R.out.1, by rw [hv]; exact R.out.2.1, HF.out (P.out.trans R.out.2.2)⟩
end Go.Proofs.Ytgchfbfgjanaiaa
