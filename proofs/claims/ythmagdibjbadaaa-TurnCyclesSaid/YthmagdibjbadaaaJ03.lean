/-
  num.world.sum: how far its loop goes
  slices.Clone, Reverse, Concat at lists of terms; num.negated, num.sign
  num.sign, slices.Reverse, num.newWorld
-/
import Derived.Test.YthmagdibjbadaaaJ01
import Derived.Test.YthmagdibjbadaaaJ02
import Derived.Deep.DeepMust
import Derived.WalkSpells
import Derived.BigRegion
set_option linter.unusedSimpArgs false
set_option linter.unusedVariables false
namespace Go.Proofs.Ythmagdibjbadaaa.Sr

/-- how often a power stands in terms, with its sign -/
def cntV : List T → Nat → Int
  | [], _ => 0
  | t :: l, p => (if t.2 = p then one t.1 else 0) + cntV l p

theorem tot_add (c d : Nat → Int) : ∀ xs, tot (fun p => c p + d p) xs = tot c xs + tot d xs
  | [] => by simp [tot]
  | x :: xs => by simp only [tot, tot_add c d xs, Int.add_mul]; omega

theorem tot_one (p : Nat) (m : Int) : ∀ {xs : List Nat}, xs.Nodup → p ∈ xs → tot (fun q => if p = q then m else 0) xs = m * 2 ^ p
  | [], _, h => by simp at h
  | x :: xs, hd, h => by
    obtain ⟨hx, hd'⟩ := List.nodup_cons.1 hd
    simp only [tot]
    by_cases e : p = x
    · subst e
      have : ∀ {ys : List Nat}, p ∉ ys → tot (fun q => if p = q then m else 0) ys = 0 := by
        intro ys
        induction ys with
        | nil => intro _; rfl
        | cons y ys ih =>
          intro hy
          simp only [List.mem_cons, not_or] at hy
          simp [tot, hy.1, ih hy.2]
      rw [this hx, if_pos rfl]; omega
    · rw [if_neg e, tot_one p m hd' (by simpa [e] using h)]; omega

theorem tot_zero : ∀ xs, tot (fun _ => 0) xs = 0
  | [] => rfl
  | x :: xs => by simp [tot, tot_zero xs]

theorem tot_cnt {es : List Nat} (hd : es.Nodup) : ∀ {l : List T}, (∀ t ∈ l, t.2 ∈ es) → tot (cntV l) es = val l
  | [], _ => by
    have : cntV [] = fun _ => 0 := rfl
    rw [this, tot_zero]; rfl
  | t :: l, h => by
    have : cntV (t :: l) = fun p => (if t.2 = p then one t.1 else 0) + cntV l p := rfl
    rw [this, tot_add, tot_one t.2 _ hd (h t (by simp)), tot_cnt hd fun u hu => h u (by simp [hu])]
    simp only [val, tv]
    cases t.1 <;> simp [one]

/-- how much there is in all -/
def wt (c : Nat → Int) : List Nat → Nat
  | [] => 0
  | x :: xs => (c x).natAbs + wt c xs

theorem wt_add (c d : Nat → Int) : ∀ xs, wt (fun p => c p + d p) xs ≤ wt c xs + wt d xs
  | [] => by simp [wt]
  | x :: xs => by have := wt_add c d xs; simp only [wt]; omega

theorem wt_zero : ∀ xs, wt (fun _ => 0) xs = 0
  | [] => rfl
  | x :: xs => by simp [wt, wt_zero xs]

theorem wt_one (p : Nat) (m : Int) : ∀ {xs : List Nat}, xs.Nodup → wt (fun q => if p = q then m else 0) xs ≤ m.natAbs
  | [], _ => by simp [wt]
  | x :: xs, hd => by
    obtain ⟨hx, hd'⟩ := List.nodup_cons.1 hd
    simp only [wt]
    by_cases e : p = x
    · subst e
      have : ∀ {ys : List Nat}, p ∉ ys → wt (fun q => if p = q then m else 0) ys = 0 := by
        intro ys
        induction ys with
        | nil => intro _; rfl
        | cons y ys ih =>
          intro hy
          simp only [List.mem_cons, not_or] at hy
          simp [wt, hy.1, ih hy.2]
      rw [this hx, if_pos rfl]; omega
    · rw [if_neg e]
      have := wt_one p m hd'
      simpa using this

theorem wt_cnt {es : List Nat} (hd : es.Nodup) : ∀ (l : List T), wt (cntV l) es ≤ l.length
  | [] => by
    have : cntV [] = fun _ => 0 := rfl
    rw [this, wt_zero]; simp
  | t :: l => by
    have e : cntV (t :: l) = fun p => (if t.2 = p then one t.1 else 0) + cntV l p := rfl
    have h1 := wt_add (fun p => if t.2 = p then one t.1 else 0) (cntV l) es
    have h2 := wt_one t.2 (one t.1) hd
    have h3 := wt_cnt hd l
    have h4 : (one t.1).natAbs = 1 := by cases t.1 <;> rfl
    rw [e]
    simp only [List.length_cons]
    omega

/-- the rounds that are still to come, at most -/
def mu (c : Nat → Int) (xs : List Nat) (carry : Int) (e : Nat) : Nat :=
  wt c xs + carry.natAbs + 2 * xs.length + (if carry ≠ 0 ∧ xs.head? = some e then 0 else 1)

structure LInv (n : Nat) (c : Nat → Int) (E : List Nat) (xs : List Nat) (carry : Int) (e : Nat) : Prop where
  sub : ∀ x ∈ xs, x ∈ E
  weight : carry.natAbs + wt c xs ≤ n
  near : carry ≠ 0 → ∃ f ∈ E, ∃ k, k ≤ 16 ∧ e = f + k ∧ 2 ^ k * (carry.natAbs - 1) ≤ n

theorem cntV_append (a b : List T) (p : Nat) : cntV (a ++ b) p = cntV a p + cntV b p := by
  induction a with
  | nil => simp [cntV]
  | cons t a ih => simp only [List.cons_append, cntV, ih]; omega

theorem cntV_le (l : List T) (p : Nat) : -(l.length : Int) ≤ cntV l p ∧ cntV l p ≤ l.length := by
  induction l with
  | nil => simp [cntV]
  | cons t l ih =>
    have h4 : one t.1 = 1 ∨ one t.1 = -1 := by cases t.1 <;> simp [one]
    simp only [cntV, List.length_cons]
    split <;> omega

theorem cntV_out {l : List T} {p : Nat} (h : ∀ t ∈ l, t.2 ≠ p) : cntV l p = 0 := by
  induction l with
  | nil => rfl
  | cons t l ih =>
    simp only [cntV]
    rw [if_neg (h t (by simp)), ih fun u hu => h u (by simp [hu])]
    rfl

/-- where the loop asks for the next number: near a term, and below another one, or below the sum -/
def SumAt (l : List T) (p : Nat) : Prop := (∃ t ∈ l, ∃ k, k ≤ 16 ∧ p = t.2 + k) ∧ ((∃ t ∈ l, p < t.2) ∨ 4 * 2 ^ p ≤ 3 * (val l).natAbs)

variable {n : Nat} {c : Nat → Int} {E xs : List Nat} {carry : Int} {e p : Nat}

theorem LInv.start {l : List T} (hd : E.Nodup) (e : Nat) : LInv l.length (cntV l) E E 0 e :=
  ⟨fun _ h => h, by have := wt_cnt hd l; simpa using this, fun h => absurd rfl h⟩

/-- the places to which the loop comes are near those of the terms -/
theorem LInv.at (h : LInv n c E xs carry e) (hp : nextAt xs carry e = some p) : ∃ f ∈ E, ∃ k, k ≤ 16 ∧ p = f + k := by
  unfold nextAt at hp
  split at hp
  · exact ⟨p, h.sub p (List.mem_of_mem_head? hp), 0, by omega, rfl⟩
  · rename_i hc
    cases hp
    obtain ⟨f, hf, k, hk, e1, _⟩ := h.near hc
    exact ⟨f, hf, k, hk, e1⟩

/-- one round: what is carried is half of what is there, rounded away from 0 at most -/
theorem LInv.step (h : LInv n c E xs carry e) (hn : n ≤ 30000) (hp : nextAt xs carry e = some p) {k : Int} (h2 : 2 * k.natAbs ≤ (hereAt c xs carry p).natAbs + 1)
    (h1 : k ≠ 0 → (hereAt c xs carry p).natAbs = 1 → (restAt xs p).head? = some (p + 1)) :
    LInv n c E (restAt xs p) k (p + 1) ∧ mu c (restAt xs p) k (p + 1) < mu c xs carry e := by
  have hsub : ∀ x ∈ restAt xs p, x ∈ E := by
    intro x hx
    unfold restAt at hx
    split at hx
    · exact h.sub x (List.mem_of_mem_tail hx)
    · exact h.sub x hx
  have hw := h.weight
  by_cases hh : xs.head? = some p
  · obtain ⟨ys, rfl⟩ : ∃ ys, xs = p :: ys := by
      cases xs with
      | nil => simp at hh
      | cons y ys => simp at hh; subst hh; exact ⟨ys, rfl⟩
    have e1 : hereAt c (p :: ys) carry p = carry + c p := by simp [hereAt]
    have e2 : restAt (p :: ys) p = ys := by simp [restAt]
    rw [e1] at h2 h1
    rw [e2] at hsub h1 ⊢
    simp only [wt] at hw
    have hk : k.natAbs ≤ carry.natAbs + (c p).natAbs := by omega
    refine ⟨⟨hsub, by omega, fun hk0 => ⟨p, h.sub p (by simp), 1, by omega, rfl, by omega⟩⟩, ?_⟩
    unfold mu
    simp only [wt, List.length_cons]
    split <;> split <;> omega
  · have e1 : hereAt c xs carry p = carry := by simp [hereAt, hh]
    have e2 : restAt xs p = xs := by simp [restAt, hh]
    rw [e1] at h2 h1
    rw [e2] at hsub h1 ⊢
    have hc : carry ≠ 0 := by
      intro h0
      rw [h0] at hp
      simp only [nextAt, if_true] at hp
      exact hh hp
    have hpe : p = e := by
      unfold nextAt at hp
      rw [if_neg hc] at hp
      exact (Option.some.inj hp).symm
    subst hpe
    obtain ⟨f, hf, j, hj, e3, e4⟩ := h.near hc
    refine ⟨⟨hsub, by omega, fun hk0 => ?_⟩, ?_⟩
    · by_cases hc1 : carry.natAbs = 1
      · have hz := h1 hk0 hc1
        exact ⟨p + 1, hsub _ (List.mem_of_mem_head? hz), 0, by omega, rfl, by omega⟩
      · have hj14 : j ≤ 14 := by
          by_cases hj : j ≤ 14
          · exact hj
          · exfalso
            have : 2 ^ 15 ≤ 2 ^ j := Nat.pow_le_pow_right (by decide) (by omega)
            have h3 : 2 ^ j * 1 ≤ 2 ^ j * (carry.natAbs - 1) := Nat.mul_le_mul_left _ (by omega)
            omega
        refine ⟨f, hf, j + 1, by omega, by omega, ?_⟩
        have h3 : 2 * (k.natAbs - 1) ≤ carry.natAbs - 1 := by omega
        calc 2 ^ (j + 1) * (k.natAbs - 1) = 2 ^ j * (2 * (k.natAbs - 1)) := by rw [Nat.pow_succ, Nat.mul_assoc]
          _ ≤ 2 ^ j * (carry.natAbs - 1) := Nat.mul_le_mul_left _ h3
          _ ≤ n := e4
    · unfold mu
      by_cases hk0 : k = 0
      · subst hk0
        have : ¬ (carry ≠ 0 ∧ xs.head? = some p) := fun h => hh h.2
        rw [if_neg this]
        simp
        omega
      · by_cases hc1 : carry.natAbs = 1
        · have hz := h1 hk0 hc1
          rw [if_pos ⟨hk0, hz⟩, if_neg fun h => hh h.2]
          omega
        · rw [if_neg (fun h : carry ≠ 0 ∧ xs.head? = some p => hh h.2)]
          split <;> omega

/-- where nothing is carried the place does not matter -/
theorem LInv.zero (h : LInv n c E xs 0 e) (e' : Nat) : LInv n c E xs 0 e' := ⟨h.sub, h.weight, fun h => absurd rfl h⟩
theorem mu_zero (c : Nat → Int) (xs : List Nat) (e e' : Nat) : mu c xs 0 e = mu c xs 0 e' := by simp [mu]
theorem SInv.zero {S : Int} {o : List T} (h : SInv S c xs 0 e o) (e' : Nat) : SInv S c xs 0 e' o :=
  ⟨h.up, fun h => absurd rfl h, by have := h.sum; simpa using this, h.form, by have := h.next; simpa [nextAt] using this⟩

/-- a sum that is not below the place -/
theorem SInv.big {S : Int} {o : List T} (h : SInv S c xs carry e o) (hp : nextAt xs carry e = some p) (h0 : restAt xs p = []) (h2 : 2 ≤ (hereAt c xs carry p).natAbs) : 4 * 2 ^ p ≤ 3 * S.natAbs := by
  have hs := h.sum_here hp
  have hb := under_bound o p (h.next p hp).1
  rw [h0] at hs
  simp only [tot] at hs
  rw [pow_succ'] at hb
  have hpos := two_pow_pos p
  have e2 : ((2 ^ p : Nat) : Int) = (2 : Int) ^ p := by norm_cast
  have key : 4 * (2 : Int) ^ p ≤ 3 * (S.natAbs : Int) := by
    by_cases hneg : hereAt c xs carry p < 0
    · have : hereAt c xs carry p * 2 ^ p ≤ -2 * 2 ^ p := Int.mul_le_mul_of_nonneg_right (by omega) (by omega)
      omega
    · have : 2 * 2 ^ p ≤ hereAt c xs carry p * 2 ^ p := Int.mul_le_mul_of_nonneg_right (by omega) (by omega)
      omega
  have : ((4 * 2 ^ p : Nat) : Int) ≤ ((3 * S.natAbs : Nat) : Int) := by push_cast; exact key
  exact_mod_cast this

end Go.Proofs.Ythmagdibjbadaaa.Sr

namespace Go.Proofs.Ythmagdibjbadaaa
open Go.RowKit Sr

theorem own_empty {w : World} {B e size : Nat} (hB : B ≤ w.heap.size) (cur : Array Value) (h : cur.size = 0) : (w.alloc (.cells cur e)).ownsRow B e size (.slice (some ⟨w.heap.size, 0, none⟩) 0 0) 0 [] :=
  World.ownsRow_made w cur 0 hB (Nat.zero_le _) (by simp [h])

theorem eql_nil {P : Program} {t e size bytes : Nat} {z : Value} (E : ElemT P t e size z bytes) (a : Option Addr) (n c : Nat) (w : World) :
    (binOp .eql t (.slice a n c) (.slice none 0 0)).run P w = .ok (.bool a.isNone) w := by
  simp only [binOp]
  simp [Op.equal, Op.maxDepth, Lib.run_equalIn_slice_nil w 9999 t e a n c 0 0 E.ht]

set_option maxRecDepth 100000 in
theorem clone_any {w : World} {v : Value} {l : List (Bool × Nat)} (h : TL w v l) :
    Calls Try.prog 35 #[v] w fun e w' => ∃ a c, e = .returned (.slice a l.length c) ∧ w'.ownsRow w.heap.size 82 2 (.slice a l.length c) l.length (tcells l) ∧ Below w.heap.size w w' := by
  obtain ⟨hl, hlt, a, c, rfl, hnc, hr⟩ := h
  have hnil := fun w => eql_nil el_term a l.length c w
  have HR := Sealed.mk hr; clear hr
  have HLT := Sealed.mk hlt; clear hlt
  cases a with
  | none =>
    simp only [Option.isNone_none] at hnil
    have hl0 : l = [] := by
      cases l with
      | nil => rfl
      | cons t l => obtain ⟨b, o, e, _⟩ := HR.out (by simp); cases e
    subst hl0
    simp only [List.length_nil] at hnil
    go_enter Try.func35, Try.ntmps35
    go_wp2
    go_ret
    exact ⟨_, _, rfl, World.ownsRow_nil _ _ _ _, Below.refl _ _⟩
  | some p =>
    simp only [Option.isNone_some] at hnil
    by_cases hl0 : l = []
    · subst hl0
      simp only [List.length_nil] at hnil
      go_enter Try.func35, Try.ntmps35
      go_wp2_with (at_builtin; go_must (refine ap_none el_term (.tmp 5) (.tmp 6) rfl rfl rfl (Nat.le_refl _) rfl ?_))
      go_ret
      exact ⟨_, _, rfl, own_empty (Nat.le_refl _) _ rfl, (Below.refl _ _).alloc (Nat.le_refl _) _⟩
    · obtain ⟨b, o, hp, hrd⟩ := HR.out hl0
      obtain rfl : p = ⟨b, o, none⟩ := Option.some.inj hp
      have hb := HLT.out b rfl
      have hlen := tcells_length l
      have HLEN := Sealed.mk hlen; clear hlen
      have HRD := Sealed.mk hrd; clear hrd hp
      go_enter Try.func35, Try.ntmps35
      go_wp2_with (at_builtin; go_must (refine ap_blk el_term (.tmp 5) (.tmp 6) rfl rfl rfl (own_empty (Nat.le_refl _) _ rfl) rfl (HLEN.out) ?g0 (tcells_one l) ?g1 ?g2 ?g3))
      case g0 => exact HRD.out.same (Below.heap_alloc _ _ _ hb)
      case g1 => omega
      case g2 => simp
      case g3 =>
        intro v' w' hown hg _
        obtain ⟨a', c', rfl⟩ := own_slice hown
        have HO := Sealed.mk hown; clear hown
        have HG := Sealed.mk hg; clear hg
        go_wp2
        go_ret
        refine ⟨a', c', rfl, ?_, ?_⟩
        · simpa using HO.out
        · refine ((Below.refl _ _).alloc (Nat.le_refl _) _).grown HG.out (by simp) fun k hk => ?_
          have := Option.some.inj hk
          simp at this
          omega

/-- a list of terms with one term turned -/
theorem tcells_set : ∀ (l : List (Bool × Nat)) (i : Nat) (t : Bool × Nat), i < l.length → tcells (l.set i t) = ((tcells l).set (i * 2) (.bool t.1)).set (i * 2 + 1) (.int .i64 (t.2 : Int))
  | [], i, t, h => by simp at h
  | s :: l, 0, t, _ => by simp [tcells]
  | s :: l, i + 1, t, h => by
    have ih := tcells_set l i t (by simpa using h)
    have e : (i + 1) * 2 = i * 2 + 1 + 1 := by omega
    simp only [List.set_cons_succ, tcells, ih, e]

theorem tcells_set1 (l : List (Bool × Nat)) (i : Nat) (m : Bool) (t : Bool × Nat) (ht : l[i]? = some t) : tcells (l.set i (m, t.2)) = (tcells l).set (i * 2) (.bool m) := by
  obtain ⟨hi, rfl⟩ := List.getElem?_eq_some_iff.1 ht
  rw [tcells_set l i _ hi]
  have h2 := (tcells_at l i _ ht).2
  apply List.ext_getElem?
  intro j
  rw [List.getElem?_set]
  split
  · rename_i hj
    subst hj
    rw [List.getElem?_set_ne (by omega), h2]
    simp only [List.length_set, tcells_length]
    rw [if_pos (by omega)]
  · rfl

theorem tcells_set2 (l : List (Bool × Nat)) (i n : Nat) (t : Bool × Nat) (ht : l[i]? = some t) : tcells (l.set i (t.1, n)) = (tcells l).set (i * 2 + 1) (.int .i64 (n : Int)) := by
  obtain ⟨hi, rfl⟩ := List.getElem?_eq_some_iff.1 ht
  rw [tcells_set l i _ hi]
  have h2 := (tcells_at l i _ ht).1
  congr 1
  apply List.ext_getElem?
  intro j
  rw [List.getElem?_set]
  split
  · rename_i hj
    subst hj
    rw [h2, tcells_length, if_pos (by omega)]
  · rfl

/-- a cell of a row of the call's own is written -/
theorem own_set {w : World} {B e size n : Nat} {v : Value} {xs : List Value} (h : w.ownsRow B e size v n xs) {b : Nat} (hb : v.ownBlock = some b) {j : Nat} (hj : j < n * size) (u : Value) : (w.setCell ⟨b, j, none⟩ u).ownsRow B e size v n (xs.set j u) := by
  obtain ⟨h1, h2⟩ := h
  refine ⟨by simpa using h1, ?_⟩
  rcases h2 with ⟨rfl, _⟩ | ⟨g, cap, cur, rfl, hB, hg, hn, hm, hs, ht⟩
  · simp [Value.ownBlock] at hb
  · have e1 : g = b := Option.some.inj hb
    subst e1
    refine .inr ⟨g, cap, cur.setIfInBounds j u, rfl, hB, blk_setCell hg j u, hn, hm, by simpa using hs, ?_⟩
    rw [Array.toList_setIfInBounds, ← ht, List.take_set]

theorem own_cell {w : World} {B e size n : Nat} {v : Value} {xs : List Value} (h : w.ownsRow B e size v n xs) {b : Nat} (hb : v.ownBlock = some b) {j : Nat} {u : Value} (hj : xs[j]? = some u) : w.cell? ⟨b, j, none⟩ = some u := by
  have hc := h.cells hb j u hj
  have : (⟨b, 0, none⟩ : Addr).add j = ⟨b, j, none⟩ := by unfold Addr.add; split <;> simp_all
  rwa [this] at hc

theorem own_free {w : World} {B e size n : Nat} {v : Value} {xs : List Value} (h : w.ownsRow B e size v n xs) {b : Nat} (hb : v.ownBlock = some b) (j : Nat) : w.frozen? ⟨b, j, none⟩ = false := by
  rcases h.2 with ⟨rfl, _⟩ | ⟨g, cap, cur, rfl, _, hg, _⟩
  · simp [Value.ownBlock] at hb
  · have e1 : g = b := Option.some.inj hb
    subst e1
    exact frozen_of_blk hg j

def negT (l : List (Bool × Nat)) : List (Bool × Nat) := l.map fun t => (!t.1, t.2)

/-- the first k of them turned -/
def negTo (l : List (Bool × Nat)) (k : Nat) : List (Bool × Nat) := negT (l.take k) ++ l.drop k

theorem negTo_length (l : List (Bool × Nat)) (k : Nat) : (negTo l k).length = l.length := by simp [negTo, negT]; omega
theorem negTo_at {l : List (Bool × Nat)} {k : Nat} {t : Bool × Nat} (h : l[k]? = some t) : (negTo l k)[k]? = some t := by
  have hk := (List.getElem?_eq_some_iff.1 h).1
  unfold negTo negT
  rw [List.getElem?_append_right (by simp; omega)]
  simp only [List.length_map, List.length_take, List.getElem?_drop]
  rw [show k + (k - min k l.length) = k by omega]
  exact h
theorem negTo_succ {l : List (Bool × Nat)} {k : Nat} {t : Bool × Nat} (h : l[k]? = some t) : negTo l (k + 1) = (negTo l k).set k (!t.1, t.2) := by
  have hk := (List.getElem?_eq_some_iff.1 h).1
  have hd : l.drop k = t :: l.drop (k + 1) := by
    rw [List.drop_eq_getElem_cons hk]
    congr 1
    exact (List.getElem?_eq_some_iff.1 h).2
  unfold negTo negT
  rw [take_snoc h, List.map_append, hd, List.set_append_right _ _ (by simp; omega)]
  simp only [List.length_map, List.length_take]
  rw [show k - min k l.length = 0 by omega]
  simp


end Go.Proofs.Ythmagdibjbadaaa

namespace Go.Proofs.Ythmagdibjbadaaa
open Go.RowKit Sr

def sgnT : List (Bool × Nat) → Int
  | [] => 0
  | t :: _ => one t.1

theorem sgnT_enc (vs : List Int) (x : Int) : sgnT (enc vs x) = sg x := by
  have hv := val_form x
  obtain ⟨n, hu⟩ := form_form x
  unfold enc
  cases hf : form x with
  | nil => rw [hf] at hv; simp [val] at hv; subst hv; simp [sgnT, sg]
  | cons t l =>
    rw [hf] at hu hv
    have := val_ne hu
    rw [hv] at this
    simp [sgnT, this]

theorem sign_any {w : World} {v : Value} {l : List (Bool × Nat)} (h : TL w v l) :
    Calls Try.prog 27 #[v] w fun e w' => e = .returned (.int .i64 (sgnT l)) ∧ w = w' := by
  obtain ⟨a, n, c, rfl⟩ := h.slice
  obtain ⟨hn, hn1, hnc, hcell⟩ := h.cells
  clear h
  cases l with
  | nil =>
    obtain rfl : n = 0 := by simpa using hn
    clear hn hn1 hcell
    go_enter Try.func27, Try.ntmps27
    go_wp2
    go_ret
    exact ⟨rfl, rfl⟩
  | cons t l =>
    obtain ⟨b, o, rfl, h0, _⟩ := hcell 0 t rfl
    simp only [Nat.zero_mul, Nat.add_zero] at h0
    have hpos : 0 < n := by simp at hn; omega
    have h00 : ((n : Int) == 0) = false := by simp; omega
    clear hcell hn
    obtain ⟨m, k⟩ := t
    cases m
    · go_enter Try.func27, Try.ntmps27
      go_wp2
      go_ret
      exact ⟨rfl, rfl⟩
    · go_enter Try.func27, Try.ntmps27
      go_wp2
      go_ret
      exact ⟨rfl, rfl⟩

/-- the k first and the k last ones exchanged -/
def revTo (l : List (Bool × Nat)) (k : Nat) : List (Bool × Nat) :=
  (List.range l.length).map fun p => if p < k ∨ l.length - k ≤ p then l.getD (l.length - 1 - p) (false, 0) else l.getD p (false, 0)

theorem revTo_length (l : List (Bool × Nat)) (k : Nat) : (revTo l k).length = l.length := by simp [revTo]
theorem revTo_get {l : List (Bool × Nat)} {k p : Nat} (hp : p < l.length) : (revTo l k)[p]? = some (if p < k ∨ l.length - k ≤ p then l.getD (l.length - 1 - p) (false, 0) else l.getD p (false, 0)) := by
  simp [revTo, hp]
theorem revTo_zero (l : List (Bool × Nat)) : revTo l 0 = l := by
  apply List.ext_getElem?
  intro p
  by_cases hp : p < l.length
  · rw [revTo_get hp, if_neg (by omega)]
    simp [List.getD_eq_getElem?_getD, hp]
  · rw [List.getElem?_eq_none (by rw [revTo_length]; omega), List.getElem?_eq_none (by omega)]
theorem revTo_end {l : List (Bool × Nat)} {k : Nat} (h : l.length ≤ 2 * k + 1) : revTo l k = l.reverse := by
  apply List.ext_getElem?
  intro p
  by_cases hp : p < l.length
  · rw [revTo_get hp, List.getElem?_reverse hp]
    have hq : l.length - 1 - p < l.length := by omega
    by_cases hc : p < k ∨ l.length - k ≤ p
    · rw [if_pos hc]; simp [List.getD_eq_getElem?_getD, hq]
    · rw [if_neg hc]
      have : l.length - 1 - p = p := by omega
      simp [List.getD_eq_getElem?_getD, hp, this]
  · rw [List.getElem?_eq_none (by rw [revTo_length]; omega), List.getElem?_eq_none (by simp; omega)]
theorem revTo_succ {l : List (Bool × Nat)} {k : Nat} (h : 2 * k + 1 < l.length) :
    revTo l (k + 1) = ((revTo l k).set k (l.getD (l.length - 1 - k) (false, 0))).set (l.length - 1 - k) (l.getD k (false, 0)) := by
  apply List.ext_getElem?
  intro p
  by_cases hp : p < l.length
  · rw [revTo_get hp, List.getElem?_set, List.getElem?_set]
    simp only [List.length_set, revTo_length]
    by_cases h1 : l.length - 1 - k = p
    · rw [if_pos h1, if_pos (by omega), if_pos (by omega)]
      congr 2; omega
    · rw [if_neg h1]
      by_cases h2 : k = p
      · rw [if_pos h2, if_pos (by omega), if_pos (by omega)]
        congr 2; omega
      · rw [if_neg h2, revTo_get hp]
        congr 1
        by_cases hc : p < k ∨ l.length - k ≤ p
        · rw [if_pos (by omega), if_pos hc]
        · rw [if_neg (by omega), if_neg hc]
  · rw [List.getElem?_eq_none (by rw [revTo_length]; omega), List.getElem?_eq_none (by simp [revTo_length]; omega)]

set_option maxRecDepth 100000 in
theorem reverse_any {w : World} {B n c : Nat} {a : Option Addr} {l : List (Bool × Nat)} (h : w.ownsRow B 82 2 (.slice a n c) n (tcells l)) (hl : n ≤ 100000) :
    Calls Try.prog 37 #[.slice a n c] w fun e w' => e = .returned (.tuple #[]) ∧ w'.ownsRow B 82 2 (.slice a n c) n (tcells l.reverse) ∧ Ext (fun k => (Value.slice a n c).ownBlock = some k) w w' := by
  have hlen : l.length = n := by have := h.1; rw [tcells_length] at this; omega
  subst hlen
  have HO := Sealed.mk h; clear h
  go_enter Try.func37, Try.ntmps37
  go_wp2
  go_loopw [2, 3] (fun i j wr => ∃ k : Nat, 2 * k ≤ l.length ∧ i = .int .i64 k ∧ j = .int .i64 ((l.length : Int) - 1 - k) ∧ wr.ownsRow B 82 2 (.slice a l.length c) l.length (tcells (revTo l k)) ∧ Ext (fun k => (Value.slice a l.length c).ownBlock = some k) w wr) (fun i _ _ => l.length - (intOf i).toNat)
  case atStart => exact ⟨0, Nat.zero_le _, rfl, by simp, by rw [revTo_zero]; exact HO.out, Ext.refl _ _⟩
  case round =>
    obtain ⟨k, hk, rfl, rfl, hown, he⟩ := hrel
    by_cases hkl : 2 * k + 1 < l.length
    · have ek : ((l.length : Int) - 1 - k) = ((l.length - 1 - k : Nat) : Int) := by omega
      obtain ⟨q, hq⟩ : ∃ q, q = l.length - 1 - k := ⟨_, rfl⟩
      rw [← hq] at ek
      rw [ek]
      obtain ⟨g, cap, e1⟩ := own_form hown (by omega)
      obtain ⟨rfl, _, rfl⟩ := Value.slice.inj e1
      have hkn : k < l.length := by omega
      have hqn : q < l.length := by omega
      have g1 := revTo_get (k := k) hkn
      rw [if_neg (by omega)] at g1
      have g2 := revTo_get (k := k) hqn
      rw [if_neg (by omega)] at g2
      have c1 := own_cell hown (b := g) rfl (tcells_at _ _ _ g1).1
      have c2 := own_cell hown (b := g) rfl (tcells_at _ _ _ g1).2
      have c3 := own_cell hown (b := g) rfl (tcells_at _ _ _ g2).1
      have c4 := own_cell hown (b := g) rfl (tcells_at _ _ _ g2).2
      have f1 := own_free hown (b := g) rfl (k * 2)
      have f2 := own_free hown (b := g) rfl (k * 2 + 1)
      have f3 := own_free hown (b := g) rfl (q * 2)
      have f4 := own_free hown (b := g) rfl (q * 2 + 1)
      have hlt : (k : Int) < (q : Int) := by omega
      have hne : k ≠ q := by omega
      have HOW := Sealed.mk hown; clear hown
      have HE := Sealed.mk he; clear he e1
      have HQ := Sealed.mk hq; clear hq
      have HEK := Sealed.mk ek; clear ek g1 g2
      generalize hx : l.getD k (false, 0) = X at *
      generalize hy : l.getD q (false, 0) = Y at *
      have HX := Sealed.mk hx; clear hx
      have HY := Sealed.mk hy; clear hy
      obtain ⟨x1, x2⟩ := X
      obtain ⟨y1, y2⟩ := Y
      go_wp2
      go_region
      go_wp2
      go_roundw
      case rel =>
        refine ⟨k + 1, by omega, by go_num, ?_, ?_, ?_⟩
        · have := HEK.out
          rw [show (q : Int) - 1 = (l.length : Int) - 1 - ((k + 1 : Nat) : Int) by omega]
        · rw [revTo_succ hkl, ← HQ.out, HX.out, HY.out, tcells_set _ q _ (by simp [revTo_length]; omega), tcells_set _ k _ (by rw [revTo_length]; omega)]
          exact own_set (own_set (own_set (own_set HOW.out rfl (by omega) _) rfl (by omega) _) rfl (by omega) _) rfl (by omega) _
        · exact ((((HE.out.setCell (p := ⟨g, k * 2, none⟩) (.inl rfl) _).setCell (p := ⟨g, k * 2 + 1, none⟩) (.inl rfl) _).setCell (p := ⟨g, q * 2, none⟩) (.inl rfl) _).setCell (p := ⟨g, q * 2 + 1, none⟩) (.inl rfl) _).drew
      case measure => simp [intOf]; omega
    · have hge : ((l.length : Int) - 1 - k) ≤ (k : Int) := by omega
      have HOW := Sealed.mk hown; clear hown
      have HE := Sealed.mk he; clear he
      go_wp2
      go_end0
      refine ⟨rfl, ?_, HE.out⟩
      have := HOW.out
      rwa [revTo_end (by omega)] at this

set_option maxRecDepth 100000 in
theorem newWorld_any {w : World} {U : List Int} (h0 : (0 : Int) ∈ U) (hU : U.length ≤ roomW) :
    Calls Try.prog 22 #[] w fun e w' => ∃ b, e = .returned (.pointer (some ⟨b.p, 0, none⟩)) ∧ WInv w' b [0] U ∧ Below w.heap.size w w' ∧ ∀ k, b.M k → w.heap.size ≤ k := by
  have hmm := @run_makeMap Try.prog
  go_enter Try.func22, Try.ntmps22
  go_wp2_with (refine wp_insert kk_string Try.underlying76 (.tmp 2) (.const (.string ⟨#[]⟩)) (.const (.int .i64 0)) rfl rfl (List.Pairwise.nil) (l := []) (r := w.heap.size + 1) ?m0 ⟨#[]⟩ 0 rfl rfl rfl ?_)
  case m0 => exact ⟨#[], 0, by simpa using blk_alloc (w.alloc (.cells #[.slice none 0 0] 67)) (.map #[] 0), rfl⟩
  intro w1 hm1 hg1
  have HM1 := Sealed.mk hm1; clear hm1
  have HG1 := Sealed.mk hg1; clear hg1
  go_wp2
  go_ret
  have hg1 := HG1.out
  have hs := hg1.size
  simp at hs
  have b0 : w1.heap[w.heap.size]? = some (.cells #[.slice none 0 0] 67 (0, 0)) := by
    rw [hg1.block w.heap.size (by simp; omega) (by simp)]
    rw [Below.heap_alloc _ _ _ (by simp)]
    exact blk_alloc _ _
  have hlt1 : w.heap.size + 1 < w1.heap.size := by omega
  have old : ∀ (o : Obj) (k : Nat), k < w1.heap.size → (((w1.alloc (.map #[] 0)).alloc (.map #[] 0)).alloc o).heap[k]? = w1.heap[k]? := fun o k hk => by
    rw [Below.heap_alloc _ o k (by simp; omega), Below.heap_alloc _ _ k (by simp; omega), Below.heap_alloc _ _ k hk]
  have hP : ((w1.alloc (.map #[] 0)).alloc (.map #[] 0)).heap.size = w1.heap.size + 2 := by simp
  refine ⟨⟨w1.heap.size + 2, w.heap.size, w.heap.size + 1, w1.heap.size, w1.heap.size + 1⟩, rfl, ⟨?_, ?_, hU, ?_, ?_, ?_, ?_, ?_⟩, ?_, ?_⟩
  · refine ⟨rfl, by simp, ?_⟩
    intro i x hx t ht
    cases i with
    | zero => simp at hx; subst hx; rw [form_zero] at ht; simp at ht
    | succ i => simp at hx
  · intro x hx; simp at hx; subst hx; exact h0
  · refine ⟨1, #[.slice none 0 0], ?_, ?_, by simp, by decide, rfl, ?_⟩
    · rw [← hP]; exact blk_alloc _ _
    · rw [old _ _ (by simp only; omega)]
      exact b0
    · intro i x hx
      cases i with
      | zero =>
        simp at hx; subst hx
        refine ⟨_, rfl, ?_, fun k hk => by simp [Value.ownBlock] at hk⟩
        have : enc [0] 0 = [] := by simp [enc, form_zero]
        rw [this]
        exact ⟨by simp, fun b hb => by simp [Value.ownBlock] at hb, none, 0, rfl, by simp, fun h => absurd rfl h⟩
      | succ i => simp at hx
  · have e : placesOf [0] = putK ([] : List (ByteArray × Int)) ⟨#[]⟩ 0 := by
      have : enc [0] 0 = [] := by simp [enc, form_zero]
      simp [placesOf, putK, lookK, this, keyS, keyNums, strOfNums]
    rw [e]
    refine HM1.out.same ?_
    exact old _ _ (by omega)
  · refine ⟨[], (MapIs.made w1).same ?_, List.Pairwise.nil, by simp⟩
    rw [Below.heap_alloc _ _ _ (by simp; omega), Below.heap_alloc _ _ _ (by simp)]
  · refine ⟨[], MapIs.same (w := (w1.alloc (.map #[] 0)).alloc (.map #[] 0)) ?_ ?_, List.Pairwise.nil, by simp⟩
    · have := MapIs.made (ek := encPair) (w1.alloc (.map #[] 0))
      simpa using this
    · rw [Below.heap_alloc _ _ _ (by simp)]
  · simp; omega
  · have h1 : Below w.heap.size w w1 := (((Below.refl _ w).alloc (Nat.le_refl _) _).alloc (by simp) _).grown hg1 (by simp; omega) (fun k hk => by have := Option.some.inj hk; omega)
    exact ((h1.alloc (by omega) _).alloc (by simp; omega) _).alloc (by simp; omega) _
  · intro k hk
    unfold WB.M at hk
    simp only at hk
    omega

end Go.Proofs.Ythmagdibjbadaaa
