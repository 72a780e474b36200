/-
  num.world.sum: how far its loop goes
  slices.SortFunc of places (Insertion1): after the kit's walk at a comparison that turns nothing
-/
import Derived.Test.YtgchfbfgjanaiaaJ01
import Derived.Test.YtgchfbfgjanaiaaJ07
import Derived.Sort.WalkA
import Derived.Sort.WalkB2
import Derived.Sort.WalkB12
import Derived.Deep.LoopGhost
set_option linter.unusedSimpArgs false
set_option linter.unusedVariables false
namespace Go.Proofs.Ytgchfbfgjanaiaa.Sr
def cntV : List T → Nat → Int
  | [], _ => 0
  | t :: l, p => (if t.2 = p then one t.1 else 0) + cntV l p
theorem tot_add (c d : Nat → Int) : ∀ xs, tot (fun p => c p + d p) xs = tot c xs + tot d xs
  | [] => by simp [tot]
  | x :: xs => by simp only [tot, tot_add c d xs, Int.add_mul]; omega
theorem tot_one (p : Nat) (m : Int) : ∀ {xs : List Nat}, xs.Nodup → p ∈ xs → tot (fun q => if p = q then m else 0) xs = m * 2 ^ p
  | [], _, h => by simp at h
  | x :: xs, hd, h => by
    obtain ⟨hx, hd'⟩ := List.nodup_cons.1 hd
    simp only [tot]
    by_cases e : p = x
    · subst e
      have : ∀ {ys : List Nat}, p ∉ ys → tot (fun q => if p = q then m else 0) ys = 0 := by
        intro ys
        induction ys with
        | nil => intro _; rfl
        | cons y ys ih =>
          intro hy
          simp only [List.mem_cons, not_or] at hy
          simp [tot, hy.1, ih hy.2]
      rw [this hx, if_pos rfl]; omega
    · rw [if_neg e, tot_one p m hd' (by simpa [e] using h)]; omega
theorem tot_zero : ∀ xs, tot (fun _ => 0) xs = 0
  | [] => rfl
  | x :: xs => by simp [tot, tot_zero xs]
theorem tot_cnt {es : List Nat} (hd : es.Nodup) : ∀ {l : List T}, (∀ t ∈ l, t.2 ∈ es) → tot (cntV l) es = val l
  | [], _ => by
    have : cntV [] = fun _ => 0 := rfl
    rw [this, tot_zero]; rfl
  | t :: l, h => by
    have : cntV (t :: l) = fun p => (if t.2 = p then one t.1 else 0) + cntV l p := rfl
    rw [this, tot_add, tot_one t.2 _ hd (h t (by simp)), tot_cnt hd fun u hu => h u (by simp [hu])]
    simp only [val, tv]
    cases t.1 <;> simp [one]
def wt (c : Nat → Int) : List Nat → Nat
  | [] => 0
  | x :: xs => (c x).natAbs + wt c xs
theorem wt_add (c d : Nat → Int) : ∀ xs, wt (fun p => c p + d p) xs ≤ wt c xs + wt d xs
  | [] => by simp [wt]
  | x :: xs => by have := wt_add c d xs; simp only [wt]; omega
theorem wt_zero : ∀ xs, wt (fun _ => 0) xs = 0
  | [] => rfl
  | x :: xs => by simp [wt, wt_zero xs]
theorem wt_one (p : Nat) (m : Int) : ∀ {xs : List Nat}, xs.Nodup → wt (fun q => if p = q then m else 0) xs ≤ m.natAbs
  | [], _ => by simp [wt]
  | x :: xs, hd => by
    obtain ⟨hx, hd'⟩ := List.nodup_cons.1 hd
    simp only [wt]
    by_cases e : p = x
    · subst e
      have : ∀ {ys : List Nat}, p ∉ ys → wt (fun q => if p = q then m else 0) ys = 0 := by
        intro ys
        induction ys with
        | nil => intro _; rfl
        | cons y ys ih =>
          intro hy
          simp only [List.mem_cons, not_or] at hy
          simp [wt, hy.1, ih hy.2]
      rw [this hx, if_pos rfl]; omega
    · rw [if_neg e]
      have := wt_one p m hd'
      simpa using this
theorem wt_cnt {es : List Nat} (hd : es.Nodup) : ∀ (l : List T), wt (cntV l) es ≤ l.length
  | [] => by
    have : cntV [] = fun _ => 0 := rfl
    rw [this, wt_zero]; simp
  | t :: l => by
    have e : cntV (t :: l) = fun p => (if t.2 = p then one t.1 else 0) + cntV l p := rfl
    have h1 := wt_add (fun p => if t.2 = p then one t.1 else 0) (cntV l) es
    have h2 := wt_one t.2 (one t.1) hd
    have h3 := wt_cnt hd l
    have h4 : (one t.1).natAbs = 1 := by cases t.1 <;> rfl
    rw [e]
    simp only [List.length_cons]
    omega
def mu (c : Nat → Int) (xs : List Nat) (carry : Int) (e : Nat) : Nat :=
  wt c xs + carry.natAbs + 2 * xs.length + (if carry ≠ 0 ∧ xs.head? = some e then 0 else 1)
structure LInv (n : Nat) (c : Nat → Int) (E : List Nat) (xs : List Nat) (carry : Int) (e : Nat) : Prop where
  sub : ∀ x ∈ xs, x ∈ E
  weight : carry.natAbs + wt c xs ≤ n
  near : carry ≠ 0 → ∃ f ∈ E, ∃ k, k ≤ 16 ∧ e = f + k ∧ 2 ^ k * (carry.natAbs - 1) ≤ n
theorem cntV_append (a b : List T) (p : Nat) : cntV (a ++ b) p = cntV a p + cntV b p := by
  induction a with
  | nil => simp [cntV]
  | cons t a ih => simp only [List.cons_append, cntV, ih]; omega
theorem cntV_le (l : List T) (p : Nat) : -(l.length : Int) ≤ cntV l p ∧ cntV l p ≤ l.length := by
  induction l with
  | nil => simp [cntV]
  | cons t l ih =>
    have h4 : one t.1 = 1 ∨ one t.1 = -1 := by cases t.1 <;> simp [one]
    simp only [cntV, List.length_cons]
    split <;> omega
theorem cntV_out {l : List T} {p : Nat} (h : ∀ t ∈ l, t.2 ≠ p) : cntV l p = 0 := by
  induction l with
  | nil => rfl
  | cons t l ih =>
    simp only [cntV]
    rw [if_neg (h t (by simp)), ih fun u hu => h u (by simp [hu])]
    rfl
def SumAt (l : List T) (p : Nat) : Prop := (∃ t ∈ l, ∃ k, k ≤ 16 ∧ p = t.2 + k) ∧ ((∃ t ∈ l, p < t.2) ∨ 4 * 2 ^ p ≤ 3 * (val l).natAbs)
variable {n : Nat} {c : Nat → Int} {E xs : List Nat} {carry : Int} {e p : Nat}
theorem LInv.start {l : List T} (hd : E.Nodup) (e : Nat) : LInv l.length (cntV l) E E 0 e :=
  ⟨fun _ h => h, by have := wt_cnt hd l; simpa using this, fun h => absurd rfl h⟩
theorem LInv.at (h : LInv n c E xs carry e) (hp : nextAt xs carry e = some p) : ∃ f ∈ E, ∃ k, k ≤ 16 ∧ p = f + k := by
  unfold nextAt at hp
  split at hp
  · exact ⟨p, h.sub p (List.mem_of_mem_head? hp), 0, by omega, rfl⟩
  · rename_i hc
    cases hp
    obtain ⟨f, hf, k, hk, e1, _⟩ := h.near hc
    exact ⟨f, hf, k, hk, e1⟩
theorem LInv.step (h : LInv n c E xs carry e) (hn : n ≤ 30000) (hp : nextAt xs carry e = some p) {k : Int} (h2 : 2 * k.natAbs ≤ (hereAt c xs carry p).natAbs + 1)
    (h1 : k ≠ 0 → (hereAt c xs carry p).natAbs = 1 → (restAt xs p).head? = some (p + 1)) :
    LInv n c E (restAt xs p) k (p + 1) ∧ mu c (restAt xs p) k (p + 1) < mu c xs carry e := by
  have hsub : ∀ x ∈ restAt xs p, x ∈ E := by
    intro x hx
    unfold restAt at hx
    split at hx
    · exact h.sub x (List.mem_of_mem_tail hx)
    · exact h.sub x hx
  have hw := h.weight
  by_cases hh : xs.head? = some p
  · obtain ⟨ys, rfl⟩ : ∃ ys, xs = p :: ys := by
      cases xs with
      | nil => simp at hh
      | cons y ys => simp at hh; subst hh; exact ⟨ys, rfl⟩
    have e1 : hereAt c (p :: ys) carry p = carry + c p := by simp [hereAt]
    have e2 : restAt (p :: ys) p = ys := by simp [restAt]
    rw [e1] at h2 h1
    rw [e2] at hsub h1 ⊢
    simp only [wt] at hw
    have hk : k.natAbs ≤ carry.natAbs + (c p).natAbs := by omega
    refine ⟨⟨hsub, by omega, fun hk0 => ⟨p, h.sub p (by simp), 1, by omega, rfl, by omega⟩⟩, ?_⟩
    unfold mu
    simp only [wt, List.length_cons]
    split <;> split <;> omega
  · have e1 : hereAt c xs carry p = carry := by simp [hereAt, hh]
    have e2 : restAt xs p = xs := by simp [restAt, hh]
    rw [e1] at h2 h1
    rw [e2] at hsub h1 ⊢
    have hc : carry ≠ 0 := by
      intro h0
      rw [h0] at hp
      simp only [nextAt, if_true] at hp
      exact hh hp
    have hpe : p = e := by
      unfold nextAt at hp
      rw [if_neg hc] at hp
      exact (Option.some.inj hp).symm
    subst hpe
    obtain ⟨f, hf, j, hj, e3, e4⟩ := h.near hc
    refine ⟨⟨hsub, by omega, fun hk0 => ?_⟩, ?_⟩
    · by_cases hc1 : carry.natAbs = 1
      · have hz := h1 hk0 hc1
        exact ⟨p + 1, hsub _ (List.mem_of_mem_head? hz), 0, by omega, rfl, by omega⟩
      · have hj14 : j ≤ 14 := by
          by_cases hj : j ≤ 14
          · exact hj
          · exfalso
            have : 2 ^ 15 ≤ 2 ^ j := Nat.pow_le_pow_right (by decide) (by omega)
            have h3 : 2 ^ j * 1 ≤ 2 ^ j * (carry.natAbs - 1) := Nat.mul_le_mul_left _ (by omega)
            omega
        refine ⟨f, hf, j + 1, by omega, by omega, ?_⟩
        have h3 : 2 * (k.natAbs - 1) ≤ carry.natAbs - 1 := by omega
        calc 2 ^ (j + 1) * (k.natAbs - 1) = 2 ^ j * (2 * (k.natAbs - 1)) := by rw [Nat.pow_succ, Nat.mul_assoc]
          _ ≤ 2 ^ j * (carry.natAbs - 1) := Nat.mul_le_mul_left _ h3
          _ ≤ n := e4
    · unfold mu
      by_cases hk0 : k = 0
      · subst hk0
        have : ¬ (carry ≠ 0 ∧ xs.head? = some p) := fun h => hh h.2
        rw [if_neg this]
        simp
        omega
      · by_cases hc1 : carry.natAbs = 1
        · have hz := h1 hk0 hc1
          rw [if_pos ⟨hk0, hz⟩, if_neg fun h => hh h.2]
          omega
        · rw [if_neg (fun h : carry ≠ 0 ∧ xs.head? = some p => hh h.2)]
          split <;> omega
theorem LInv.zero (h : LInv n c E xs 0 e) (e' : Nat) : LInv n c E xs 0 e' := ⟨h.sub, h.weight, fun h => absurd rfl h⟩
theorem mu_zero (c : Nat → Int) (xs : List Nat) (e e' : Nat) : mu c xs 0 e = mu c xs 0 e' := by simp [mu]
theorem SInv.zero {S : Int} {o : List T} (h : SInv S c xs 0 e o) (e' : Nat) : SInv S c xs 0 e' o :=
  ⟨h.up, fun h => absurd rfl h, by have := h.sum; simpa using this, h.form, by have := h.next; simpa [nextAt] using this⟩
theorem SInv.big {S : Int} {o : List T} (h : SInv S c xs carry e o) (hp : nextAt xs carry e = some p) (h0 : restAt xs p = []) (h2 : 2 ≤ (hereAt c xs carry p).natAbs) : 4 * 2 ^ p ≤ 3 * S.natAbs := by
  have hs := h.sum_here hp
  have hb := under_bound o p (h.next p hp).1
  rw [h0] at hs
  simp only [tot] at hs
  rw [pow_succ'] at hb
  have hpos := two_pow_pos p
  have e2 : ((2 ^ p : Nat) : Int) = (2 : Int) ^ p := by norm_cast
  have key : 4 * (2 : Int) ^ p ≤ 3 * (S.natAbs : Int) := by
    by_cases hneg : hereAt c xs carry p < 0
    · have : hereAt c xs carry p * 2 ^ p ≤ -2 * 2 ^ p := Int.mul_le_mul_of_nonneg_right (by omega) (by omega)
      omega
    · have : 2 * 2 ^ p ≤ hereAt c xs carry p * 2 ^ p := Int.mul_le_mul_of_nonneg_right (by omega) (by omega)
      omega
  have : ((4 * 2 ^ p : Nat) : Int) ≤ ((3 * S.natAbs : Nat) : Int) := by push_cast; exact key
  exact_mod_cast this
end Go.Proofs.Ytgchfbfgjanaiaa.Sr

namespace Go.Proofs.Ytgchfbfgjanaiaa
open Go.RowKit Go.Lib Go.Sort Sr
variable {X : SC}
set_option maxHeartbeats 16000000 in
set_option maxRecDepth 1000000 in
theorem insertionSortCmpFunc_s_x (a b : Nat) (d : Array Nat) (w : World)
    (S : SX X d w) (hab : a ≤ b) (hb : b ≤ d.size) (hsz : d.size < 4611686018427387904) :
    Calls Try.prog 108 #[.slice (some ⟨X.blk, 0, none⟩) d.size X.cap, .int .i64 a, .int .i64 b, .func (.func 78) #[.pointer (some ⟨X.b.p, 0, none⟩)] #[]] w fun e w' => e = .returned (.tuple #[]) ∧ SX X (Sort.insertionSort (ltOf X.cf) d a b) w' := by
  have hcl0 := oneN.cells
  simp only [Value.cells] at hcl0
  have hst := oneN.store Try.prog
  have S0 : Aside (SX X d w) := S
  clear S
  go_enter Try.func108, Try.ntmps108
  go_wp2
  go_loopg [8] (b - a) (fun g1 vi wr => ∃ (i : Nat) (dk : Array Nat), vi = .int .i64 i ∧ a < i ∧ i ≤ b + 1 ∧ b + 1 - i ≤ g1 + 1 ∧ dk.size = d.size ∧ Aside (SX X dk wr) ∧ Hid (insOuter (ltOf X.cf) a b i dk = insOuter (ltOf X.cf) a b (a + 1) d))
  case atStart => exact ⟨a + 1, d, by go_num, by omega, by omega, by omega, rfl, S0, rfl⟩
  case round =>
    clear S0
    obtain ⟨i, dk, rfl, hai, hib, hg1, hsk, S1, HO⟩ := hrel
    by_cases hlt : i < b
    · have hltz : (i : Int) < (b : Int) := by omega
      go_wp2
      -- the inner loop
      go_loopg [9] i (fun g2 vj wr2 => ∃ (j : Nat) (dj : Array Nat), vj = .int .i64 j ∧ a ≤ j ∧ j ≤ i ∧ j ≤ g2 ∧ dj.size = d.size ∧ Aside (SX X dj wr2) ∧ Hid (insInner (ltOf X.cf) a j dj = insInner (ltOf X.cf) a i dk))
      case atStart => exact ⟨i, dk, rfl, by omega, Nat.le_refl _, Nat.le_refl _, hsk, S1, rfl⟩
      case round =>
        clear S1
        obtain ⟨j, dj, rfl, haj, hji, hg2, hsj, SJ, HI⟩ := hrel
        have out : (j ≤ a ∨ (ltOf X.cf) dj[j]! dj[j - 1]! = false) → Hid (insOuter (ltOf X.cf) a b (i + 1) dj = insOuter (ltOf X.cf) a b (a + 1) d) := fun hs => by
          show _ = _
          rw [← HO.out, insOuter_go _ _ _ _ _ hlt, ← HI.out, insInner_stop _ _ _ _ hs]
        have OUT : Aside _ := out
        clear out
        by_cases hja : a < j
        · have hjaz : (a : Int) < (j : Int) := by omega
          obtain ⟨jp, hjp⟩ : ∃ q, q + 1 = j := ⟨j - 1, by omega⟩
          have zjp : (j : Int) = (jp : Int) + 1 := by omega
          have hjad : decide ((jp : Int) + 1 > (a : Int)) = true := decide_eq_true (by omega)
          have hjaz' : (a : Int) < (jp : Int) + 1 := by omega
          cases hlv : (ltOf X.cf) dj[j]! dj[j - 1]! with
          | true =>
            obtain ⟨iN1193, hiN1193⟩ : ∃ q, q = j := ⟨_, rfl⟩
            obtain ⟨jN1193, hjN1193⟩ : ∃ q, q = j - 1 := ⟨_, rfl⟩
            have ea1193 : ((jp : Int) + 1).toNat = iN1193 := by omega
            have pa1193 : (0 : Int) ≤ (jp : Int) + 1 := by omega
            have ba1193 : (jp : Int) + 1 < (d.size : Int) := by omega
            have ra1193 : IntKind.i64.wrap ((jp : Int) + 1) = (jp : Int) + 1 := by rw [IntKind.wrap_i64]; omega
            have ec1193 : ((jp : Int)).toNat = jN1193 := by omega
            have pc1193 : (0 : Int) ≤ (jp : Int) := by omega
            have bc1193 : (jp : Int) < (d.size : Int) := by omega
            have rc1193 : IntKind.i64.wrap ((jp : Int)) = (jp : Int) := by rw [IntKind.wrap_i64]; omega
            obtain ⟨x1193, hx1193⟩ : ∃ x, x = dj[j]! := ⟨_, rfl⟩
            obtain ⟨y1193, hy1193⟩ : ∃ x, x = dj[j - 1]! := ⟨_, rfl⟩
            have l1193a := SJ.out.drew.c1 (j) (by omega)
            have l1193b := SJ.out.drew.c1 (j - 1) (by omega)
            rw [← hx1193, ← hiN1193] at l1193a
            rw [← hy1193, ← hjN1193] at l1193b
            have hc1193 := SJ.out.drew.cmp (j) (j - 1) (by omega) (by omega)
            rw [← hx1193, ← hy1193] at hc1193
            have hv1193 : X.cf x1193 y1193 < 0 := by rw [hx1193, hy1193]; exact of_decide_eq_true hlv
            have hd1193 : decide (X.cf x1193 y1193 < 0) = true := decide_eq_true hv1193
            clear hx1193 hy1193 hiN1193 hjN1193
            go_wp2_with fail
            (refine wp_region_still_tail 14 (by kernel_rfl) (by kernel_rfl) ?_; simp only [List.take_succ_cons, List.take_zero, List.drop_succ_cons, List.drop_zero]; (repeat still_step); refine wpStill_nil ?_)
            change wpList _ _ _ _ _ wr.drew
            refine wpList_gen fun Qq hQq => ?_
            go_wp2_with (go_at_call 78; go_must (refine hc1193.mono ?_; rintro e1q w2 ⟨rfl, S2q, E2q⟩; have S2 : Aside (SX X dj w2) := S2q; clear l1193a l1193b hc1193 SJ ea1193 ec1193 S2q E2q))
            obtain rfl := hQq.out
            clear hQq
            go_wp2_with fail
            obtain ⟨iN1194, hiN1194⟩ : ∃ q, q = j := ⟨_, rfl⟩
            obtain ⟨jN1194, hjN1194⟩ : ∃ q, q = j - 1 := ⟨_, rfl⟩
            have ea1194 : ((jp : Int) + 1).toNat = iN1194 := by omega
            have pa1194 : (0 : Int) ≤ (jp : Int) + 1 := by omega
            have ba1194 : (jp : Int) + 1 < (d.size : Int) := by omega
            have ra1194 : IntKind.i64.wrap ((jp : Int) + 1) = (jp : Int) + 1 := by rw [IntKind.wrap_i64]; omega
            have ec1194 : ((jp : Int)).toNat = jN1194 := by omega
            have pc1194 : (0 : Int) ≤ (jp : Int) := by omega
            have bc1194 : (jp : Int) < (d.size : Int) := by omega
            have rc1194 : IntKind.i64.wrap ((jp : Int)) = (jp : Int) := by rw [IntKind.wrap_i64]; omega
            obtain ⟨x1194, hx1194⟩ : ∃ x, x = dj[j]! := ⟨_, rfl⟩
            obtain ⟨y1194, hy1194⟩ : ∃ x, x = dj[j - 1]! := ⟨_, rfl⟩
            have S3 : Aside (SX X (swp dj (j) (j - 1)) ((w2.setCell ⟨X.blk, iN1194, none⟩ (encN y1194)).setCell ⟨X.blk, jN1194, none⟩ (encN x1194)).drew) := by rw [hiN1194, hjN1194, hx1194, hy1194]; exact S2.out.swapped (j) (j - 1) (by omega) (by omega)
            have c1194a := S2.out.c1 (j) (by omega)
            have c1194b := S2.out.c1 (j - 1) (by omega)
            have f1194a := S2.out.f1 (j) (by omega)
            have f1194b := S2.out.f1 (j - 1) (by omega)
            obtain ⟨u1194, c1194c⟩ := S2.out.c2 (j) (j - 1) (by omega) (by omega) (encN y1194)
            rw [← hjN1194, ← hiN1194] at c1194c
            rw [← hx1194, ← hiN1194] at c1194a
            rw [← hy1194, ← hjN1194] at c1194b
            rw [← hiN1194] at f1194a
            rw [← hjN1194] at f1194b
            clear S2 hx1194 hy1194 hiN1194 hjN1194
            go_wp2_with fail
            go_region
            clear c1194a c1194b c1194c f1194a f1194b
            generalize ((w2.setCell ⟨X.blk, iN1194, none⟩ (encN y1194)).setCell ⟨X.blk, jN1194, none⟩ (encN x1194)).drew = w3 at S3 ⊢
            clear ea1194 ec1194
            go_wp2
            go_roundg (j - 1)
            case measure => omega
            case rel => exact ⟨j - 1, swp dj j (j - 1), by first | rfl | go_num | (congr 1; omega), by omega, by omega, Nat.le_refl _, by rw [size_swp]; exact hsj, S3, (show Hid _ from by rw [← HI.out, insInner_go (ltOf X.cf) a j dj hja hlv]; exact rfl)⟩
          | false =>
            obtain ⟨iN1195, hiN1195⟩ : ∃ q, q = j := ⟨_, rfl⟩
            obtain ⟨jN1195, hjN1195⟩ : ∃ q, q = j - 1 := ⟨_, rfl⟩
            have ea1195 : ((jp : Int) + 1).toNat = iN1195 := by omega
            have pa1195 : (0 : Int) ≤ (jp : Int) + 1 := by omega
            have ba1195 : (jp : Int) + 1 < (d.size : Int) := by omega
            have ra1195 : IntKind.i64.wrap ((jp : Int) + 1) = (jp : Int) + 1 := by rw [IntKind.wrap_i64]; omega
            have ec1195 : ((jp : Int)).toNat = jN1195 := by omega
            have pc1195 : (0 : Int) ≤ (jp : Int) := by omega
            have bc1195 : (jp : Int) < (d.size : Int) := by omega
            have rc1195 : IntKind.i64.wrap ((jp : Int)) = (jp : Int) := by rw [IntKind.wrap_i64]; omega
            obtain ⟨x1195, hx1195⟩ : ∃ x, x = dj[j]! := ⟨_, rfl⟩
            obtain ⟨y1195, hy1195⟩ : ∃ x, x = dj[j - 1]! := ⟨_, rfl⟩
            have l1195a := SJ.out.drew.c1 (j) (by omega)
            have l1195b := SJ.out.drew.c1 (j - 1) (by omega)
            rw [← hx1195, ← hiN1195] at l1195a
            rw [← hy1195, ← hjN1195] at l1195b
            have hc1195 := SJ.out.drew.cmp (j) (j - 1) (by omega) (by omega)
            rw [← hx1195, ← hy1195] at hc1195
            have hv1195 : ¬ X.cf x1195 y1195 < 0 := by rw [hx1195, hy1195]; exact of_decide_eq_false hlv
            have hd1195 : decide (X.cf x1195 y1195 < 0) = false := decide_eq_false hv1195
            clear hx1195 hy1195 hiN1195 hjN1195
            go_wp2_with fail
            (refine wp_region_still_tail 14 (by kernel_rfl) (by kernel_rfl) ?_; simp only [List.take_succ_cons, List.take_zero, List.drop_succ_cons, List.drop_zero]; (repeat still_step); refine wpStill_nil ?_)
            change wpList _ _ _ _ _ wr.drew
            refine wpList_gen fun Qq hQq => ?_
            go_wp2_with (go_at_call 78; go_must (refine hc1195.mono ?_; rintro e1q w2 ⟨rfl, S2q, E2q⟩; have S2 : Aside (SX X dj w2) := S2q; clear l1195a l1195b hc1195 SJ ea1195 ec1195 S2q E2q))
            obtain rfl := hQq.out
            clear hQq
            go_wp2
            go_roundg (b - (i + 1))
            case measure => omega
            case rel => exact ⟨i + 1, dj, by go_num, by omega, by omega, by omega, hsj, S2, OUT.out (Or.inr hlv)⟩
        · -- j = a: out of the inner loop (the guard is false: 'cmp' is not called)
          have hjaz : decide ((j : Int) > (a : Int)) = false := decide_eq_false (by omega)
          have hjaz' : ¬ (a : Int) < (j : Int) := by omega
          go_wp2_with fail
          go_region
          have S2 : Aside (SX X dj wr.drew) := SJ.out.drew
          clear SJ
          generalize wr.drew = w2 at S2 ⊢
          go_wp2
          go_roundg (b - (i + 1))
          case measure => omega
          case rel => exact ⟨i + 1, dj, by go_num, by omega, by omega, by omega, hsj, S2, OUT.out (Or.inl (by omega))⟩
    · -- the outer loop is at its end
      have hltz : ¬ (i : Int) < (b : Int) := by omega
      go_wp2
      go_end0
      exact ⟨rfl, by unfold Sort.insertionSort; rw [← HO.out, insOuter_stop _ _ _ _ _ hlt]; exact S1.out⟩
end Go.Proofs.Ytgchfbfgjanaiaa
