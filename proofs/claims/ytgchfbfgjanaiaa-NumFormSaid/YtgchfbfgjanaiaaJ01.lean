/-
  forms of whole numbers: lists of signed powers of two, the greatest exponent first, no two exponents alike or neighbours
  words and laws on memory: what one call may turn, lists of terms in memory
  laws on maps in memory whose keys are of any kind that can be told apart, and whose elements are ints
-/
import Derived.Test.YtgchfbfgjanaiaaChecked
import Derived.WalkKit
import Derived.Deep.QuietTactic
import Derived.BigQuiet
import Derived.Deep.RegionHeld3
set_option linter.unusedSimpArgs false
set_option linter.unusedVariables false
namespace Go.Proofs.Ytgchfbfgjanaiaa.Sr
abbrev T := Bool × Nat
def tv (t : T) : Int := if t.1 then -(2 ^ t.2 : Int) else 2 ^ t.2
def val : List T → Int
  | [] => 0
  | t :: l => tv t + val l
def Under : Nat → List T → Prop
  | _, [] => True
  | n, t :: l => t.2 < n ∧ Under (t.2 - 1) l ∧ (l ≠ [] → 1 ≤ t.2)
def Form (l : List T) : Prop := ∃ n, Under n l
theorem Under.mono {n m : Nat} {l : List T} (h : Under n l) (hm : n ≤ m) : Under m l := by
  cases l with
  | nil => trivial
  | cons t l => exact ⟨Nat.lt_of_lt_of_le h.1 hm, h.2⟩
theorem two_pow_pos (n : Nat) : 0 < (2 : Int) ^ n := Int.pow_pos (by decide)
theorem pow_succ' (n : Nat) : (2 : Int) ^ (n + 1) = 2 * 2 ^ n := by rw [Int.pow_succ]; omega
theorem pow_mono {a b : Nat} (h : a ≤ b) : (2 : Int) ^ a ≤ 2 ^ b := by
  induction h with
  | refl => exact Int.le_refl _
  | step h ih => rw [Nat.succ_eq_add_one, pow_succ']; have := two_pow_pos a; omega
theorem under_bound : ∀ (l : List T) (n : Nat), Under n l → -(2 ^ (n + 1) : Int) + 1 ≤ 3 * val l ∧ 3 * val l ≤ 2 ^ (n + 1) - 1
  | [], n, _ => by
    have := two_pow_pos n
    rw [pow_succ']; simp [val]; omega
  | t :: l, n, h => by
    obtain ⟨h1, h2, h3⟩ := h
    have hp := pow_mono (show t.2 + 2 ≤ n + 1 by omega)
    have e2 : (2 : Int) ^ (t.2 + 2) = 4 * 2 ^ t.2 := by rw [pow_succ', pow_succ']; omega
    have h0 := two_pow_pos t.2
    by_cases hl : l = []
    · subst hl
      simp only [val, tv]
      split <;> omega
    · have h4 := h3 hl
      have ih := under_bound l (t.2 - 1) h2
      have e1 : t.2 - 1 + 1 = t.2 := by omega
      rw [e1] at ih
      simp only [val, tv]
      split <;> omega
theorem val_pos {t : T} {l : List T} {n : Nat} (h : Under n (t :: l)) :
    (t.1 = false → 2 ^ (t.2 + 1) + 1 ≤ 3 * val (t :: l)) ∧ (t.1 = true → 3 * val (t :: l) ≤ -(2 ^ (t.2 + 1)) - 1) := by
  obtain ⟨h1, h2, h3⟩ := h
  have h0 := two_pow_pos t.2
  have e2 := pow_succ' t.2
  by_cases hl : l = []
  · subst hl
    constructor <;> intro ht <;> simp only [val, tv, ht] <;> simp <;> omega
  · have h4 := h3 hl
    have ih := under_bound l (t.2 - 1) h2
    have e1 : t.2 - 1 + 1 = t.2 := by omega
    rw [e1] at ih
    constructor <;> intro ht <;> simp only [val, tv, ht] <;> simp <;> omega
def sg (x : Int) : Int := if x < 0 then -1 else if x = 0 then 0 else 1
def one (m : Bool) : Int := if m then -1 else 1
def cmpL : List T → List T → Int
  | [], [] => 0
  | [], t :: _ => -one t.1
  | s :: _, [] => one s.1
  | s :: a, t :: b => if s = t then cmpL a b else if s.1 ≠ t.1 then one s.1 else one s.1 * sg ((s.2 : Int) - t.2)
theorem val_ne {t : T} {l : List T} {n : Nat} (h : Under n (t :: l)) : sg (val (t :: l)) = one t.1 := by
  have hp := val_pos h
  have h0 := two_pow_pos (t.2 + 1)
  unfold sg one
  cases ht : t.1
  · have := hp.1 ht; simp; split <;> omega
  · have := hp.2 ht; simp; omega
theorem under_bound' {l : List T} {n m : Nat} (h : Under n l) (hm : n ≤ m) : -(2 ^ (m + 1) : Int) + 1 ≤ 3 * val l ∧ 3 * val l ≤ 2 ^ (m + 1) - 1 :=
  under_bound l m (h.mono hm)
theorem sg_add (a b c : Int) : sg (a + b - (a + c)) = sg (b - c) := by
  have : a + b - (a + c) = b - c := by omega
  rw [this]
theorem cmpL_sg : ∀ (a b : List T) (n m : Nat), Under n a → Under m b → cmpL a b = sg (val a - val b)
  | [], [], _, _, _, _ => by simp [cmpL, val, sg]
  | [], t :: b, _, m, _, h => by
    have := val_ne h
    simp only [cmpL]
    rw [← this]
    simp only [val]
    unfold sg
    repeat' split <;> omega
  | s :: a, [], n, _, h, _ => by
    have := val_ne h
    simp only [cmpL]
    rw [← this]
    simp [val]
  | s :: a, t :: b, n, m, hs, ht => by
    have ps := val_pos hs
    have pt := val_pos ht
    simp only [cmpL]
    split
    · rename_i h
      subst h
      rw [cmpL_sg a b _ _ hs.2.1 ht.2.1]
      simp only [val]
      rw [sg_add]
    · rename_i hne
      have q1 := two_pow_pos (s.2 + 1)
      have q2 := two_pow_pos (t.2 + 1)
      split
      · rename_i h1
        cases hs1 : s.1 <;> cases ht1 : t.1 <;> simp [hs1, ht1] at h1
        · have := ps.1 hs1; have := pt.2 ht1
          unfold one sg; simp; repeat' split
          all_goals omega
        · have := ps.2 hs1; have := pt.1 ht1
          unfold one sg; simp; omega
      · rename_i h1
        have h1 : s.1 = t.1 := by simpa using h1
        have h2 : s.2 ≠ t.2 := by
          intro h2; apply hne; exact Prod.ext h1 h2
        have bs := under_bound' hs (show n ≤ max n m by omega)
        have us := under_bound (s :: a) (s.2 + 1) ⟨by omega, hs.2⟩
        have ut := under_bound (t :: b) (t.2 + 1) ⟨by omega, ht.2⟩
        by_cases hlt : s.2 < t.2
        · have hp := pow_mono (show s.2 + 1 + 1 ≤ t.2 + 1 by omega)
          have e : sg ((s.2 : Int) - t.2) = -1 := by unfold sg; split <;> omega
          rw [e]
          cases hs1 : s.1
          · have := pt.1 (h1 ▸ hs1); unfold one sg; simp; omega
          · have := pt.2 (h1 ▸ hs1); unfold one sg; simp; repeat' split
            all_goals omega
        · have hp := pow_mono (show t.2 + 1 + 1 ≤ s.2 + 1 by omega)
          have e : sg ((s.2 : Int) - t.2) = 1 := by unfold sg; repeat' split
                                                    all_goals omega
          rw [e]
          cases hs1 : s.1
          · have := ps.1 hs1; unfold one sg; simp; repeat' split
            all_goals omega
          · have := ps.2 hs1; unfold one sg; simp; omega
theorem cmpL_eq : ∀ (a b : List T), cmpL a b = 0 → a = b
  | [], [], _ => rfl
  | [], t :: b, h => by simp only [cmpL, one] at h; split at h <;> omega
  | s :: a, [], h => by simp only [cmpL, one] at h; split at h <;> omega
  | s :: a, t :: b, h => by
    simp only [cmpL] at h
    split at h
    · rename_i e; rw [e, cmpL_eq a b h]
    · rename_i hne
      split at h
      · unfold one at h; split at h <;> omega
      · rename_i h1
        exfalso
        have h1 : s.1 = t.1 := by simpa using h1
        have h2 : s.2 ≠ t.2 := by
          intro h2; apply hne; exact Prod.ext h1 h2
        unfold one sg at h
        split at h <;> repeat' split at h
        all_goals omega
theorem form_unique {a b : List T} (ha : Form a) (hb : Form b) (h : val a = val b) : a = b := by
  obtain ⟨n, ha⟩ := ha
  obtain ⟨m, hb⟩ := hb
  apply cmpL_eq
  rw [cmpL_sg a b n m ha hb, h]
  simp [sg]
def up (k : Nat) (l : List T) : List T := l.map fun t => (t.1, t.2 + k)
theorem val_up (k : Nat) : ∀ l : List T, val (up k l) = 2 ^ k * val l
  | [] => by simp [up, val]
  | t :: l => by
    have ih := val_up k l
    simp only [up, List.map_cons, val] at ih ⊢
    rw [ih, Int.mul_add]
    congr 1
    unfold tv
    split <;> simp_all [Int.pow_add, Int.mul_comm, Int.mul_neg]
theorem under_up (k : Nat) : ∀ (l : List T) (n : Nat), Under n l → Under (n + k) (up k l)
  | [], _, _ => trivial
  | t :: l, n, h => by
    obtain ⟨h1, h2, h3⟩ := h
    have ih := under_up k l _ h2
    refine ⟨by simp; omega, ?_, ?_⟩
    · simp only [up] at ih ⊢
      by_cases hl : l = []
      · subst hl; trivial
      · have := h3 hl
        refine Under.mono ih ?_
        show _ ≤ t.2 + k - 1
        omega
    · intro hl
      have : l ≠ [] := by intro e; subst e; simp at hl
      have := h3 this
      show 1 ≤ t.2 + k
      omega
theorem val_append (a b : List T) : val (a ++ b) = val a + val b := by
  induction a with
  | nil => simp [val]
  | cons t a ih => simp only [List.cons_append, val, ih]; omega
theorem under_snoc (m : Bool) : ∀ (l : List T) (n : Nat), Under n l → 0 < n → Under n (up 2 l ++ [(m, 0)]) ∨ l ≠ [] := by
  intro l n _ hn
  cases l with
  | nil => left; exact ⟨hn, trivial, by simp⟩
  | cons t l => right; simp
theorem under_snoc' (m : Bool) : ∀ (l : List T) (n : Nat), Under n l → Under (n + 2) (up 2 l ++ [(m, 0)])
  | [], n, _ => ⟨by omega, trivial, by simp⟩
  | t :: l, n, h => by
    obtain ⟨h1, h2, h3⟩ := h
    have ih := under_snoc' m l _ h2
    refine ⟨by simp; omega, ?_, ?_⟩
    · by_cases hl : l = []
      · subst hl
        refine ⟨by simp, trivial, by simp⟩
      · have := h3 hl
        have e : (up 2 (t :: l) ++ [(m, 0)]) = (t.1, t.2 + 2) :: (up 2 l ++ [(m, 0)]) := rfl
        refine Under.mono ih ?_
        simp; omega
    · intro _; simp
theorem exists_form (x : Int) : ∃ l n, Under n l ∧ val l = x := by
  generalize hk : x.natAbs = k
  induction k using Nat.strongRecOn generalizing x with
  | _ k ih =>
    by_cases h0 : x = 0
    · exact ⟨[], 0, trivial, by simp [val, h0]⟩
    by_cases h2 : x % 2 = 0
    · obtain ⟨l, n, hl, hv⟩ := ih (x / 2).natAbs (by omega) (x / 2) rfl
      exact ⟨up 1 l, n + 1, under_up 1 l n hl, by rw [val_up, hv]; omega⟩
    · by_cases h4 : x % 4 = 1
      · obtain ⟨l, n, hl, hv⟩ := ih (x / 4).natAbs (by omega) (x / 4) rfl
        exact ⟨up 2 l ++ [(false, 0)], n + 2, under_snoc' _ l n hl, by rw [val_append, val_up, hv]; simp [val, tv]; omega⟩
      · obtain ⟨l, n, hl, hv⟩ := ih ((x + 1) / 4).natAbs (by omega) ((x + 1) / 4) rfl
        exact ⟨up 2 l ++ [(true, 0)], n + 2, under_snoc' _ l n hl, by rw [val_append, val_up, hv]; simp [val, tv]; omega⟩
noncomputable def form (x : Int) : List T := (exists_form x).choose
theorem form_form (x : Int) : Form (form x) := (exists_form x).choose_spec.imp fun _ h => h.1
theorem val_form (x : Int) : val (form x) = x := by obtain ⟨_, _, h⟩ := (exists_form x).choose_spec; exact h
theorem form_of {l : List T} {x : Int} (h : Form l) (hv : val l = x) : form x = l := form_unique (form_form x) h (by rw [val_form, hv])
theorem form_val {l : List T} (h : Form l) : form (val l) = l := form_of h rfl
theorem form_zero : form 0 = [] := form_of ⟨0, trivial⟩ rfl
theorem form_eq_nil {x : Int} : form x = [] ↔ x = 0 := ⟨fun h => by have := val_form x; rw [h] at this; simpa [val] using this.symm, fun h => h ▸ form_zero⟩
end Go.Proofs.Ytgchfbfgjanaiaa.Sr

namespace Go.Proofs.Ytgchfbfgjanaiaa.Sr
def tot (c : Nat → Int) : List Nat → Int
  | [] => 0
  | x :: xs => c x * 2 ^ x + tot c xs
def hereAt (c : Nat → Int) (xs : List Nat) (carry : Int) (p : Nat) : Int := carry + if xs.head? = some p then c p else 0
def restAt (xs : List Nat) (p : Nat) : List Nat := if xs.head? = some p then xs.tail else xs
def nextAt (xs : List Nat) (carry : Int) (e : Nat) : Option Nat := if carry = 0 then xs.head? else some e
structure SInv (S : Int) (c : Nat → Int) (xs : List Nat) (carry : Int) (e : Nat) (o : List T) : Prop where
  up : xs.Pairwise (· < ·)
  low : carry ≠ 0 → ∀ x ∈ xs, e ≤ x
  sum : S = val o + carry * 2 ^ e + tot c xs
  form : Form o
  next : ∀ p, nextAt xs carry e = some p → Under p o ∧ ∀ t l, o = t :: l → t.2 + 1 = p → hereAt c xs carry p % 2 = 0
theorem SInv.start {c : Nat → Int} {xs : List Nat} (h : xs.Pairwise (· < ·)) (e : Nat) : SInv (tot c xs) c xs 0 e [] :=
  ⟨h, fun h => absurd rfl h, by simp [val], ⟨0, trivial⟩, fun _ _ => ⟨trivial, fun _ _ h => by simp at h⟩⟩
theorem SInv.done {S : Int} {c : Nat → Int} {e : Nat} {o : List T} (h : SInv S c [] 0 e o) : Sr.form S = o := by
  have := h.sum
  simp [tot] at this
  exact form_of h.form this.symm
theorem mul_two_pow (a : Int) (n : Nat) : a * 2 ^ (n + 1) = 2 * a * 2 ^ n := by rw [pow_succ', Int.mul_comm 2 a, Int.mul_assoc]
section
variable {S : Int} {c : Nat → Int} {xs : List Nat} {carry : Int} {e p : Nat} {o : List T}
theorem rest_up (h : xs.Pairwise (· < ·)) : (restAt xs p).Pairwise (· < ·) := by
  unfold restAt; split
  · exact h.tail
  · exact h
theorem SInv.rest_low (h : SInv S c xs carry e o) (hp : nextAt xs carry e = some p) : ∀ x ∈ restAt xs p, p + 1 ≤ x := by
  intro x hx
  have hu := h.up
  unfold restAt at hx
  split at hx
  · rename_i hh
    cases xs with
    | nil => simp at hh
    | cons y ys =>
      simp at hh hx
      subst hh
      exact (List.pairwise_cons.1 hu).1 x hx
  · rename_i hh
    unfold nextAt at hp
    split at hp
    · exact absurd hp hh
    · rename_i hc
      cases hp
      have := h.low hc x hx
      cases xs with
      | nil => simp at hx
      | cons y ys =>
        simp at hh
        rcases List.mem_cons.1 hx with rfl | hy
        · omega
        · have := (List.pairwise_cons.1 hu).1 x hy
          have := h.low hc y (by simp)
          omega
theorem SInv.sum_here (h : SInv S c xs carry e o) (hp : nextAt xs carry e = some p) : S = val o + hereAt c xs carry p * 2 ^ p + tot c (restAt xs p) := by
  have hs := h.sum
  unfold nextAt at hp
  unfold hereAt restAt
  by_cases hc : carry = 0
  · rw [if_pos hc] at hp
    rw [if_pos hp, if_pos hp]
    cases xs with
    | nil => simp at hp
    | cons y ys => simp at hp; subst hp; subst hc; simp [tot] at hs ⊢; omega
  · rw [if_neg hc] at hp
    cases hp
    split
    · rename_i hh
      cases xs with
      | nil => simp at hh
      | cons y ys => simp at hh; subst hh; simp [tot] at hs ⊢; rw [Int.add_mul]; omega
    · simpa using hs
theorem SInv.skip (h : SInv S c xs carry e o) (hp : nextAt xs carry e = some p) (h0 : hereAt c xs carry p = 0) (e' : Nat) : SInv S c (restAt xs p) 0 e' o where
  up := rest_up h.up
  low := fun h => absurd rfl h
  sum := by have := h.sum_here hp; rw [h0] at this; simpa using this
  form := h.form
  next := by
    intro q hq
    simp [nextAt] at hq
    have hl := h.rest_low hp q (List.mem_of_mem_head? hq)
    have hu := (h.next p hp).1
    refine ⟨hu.mono (by omega), ?_⟩
    intro t l ho ht
    subst ho
    have := hu.1
    omega
def aboveAt (c : Nat → Int) (xs : List Nat) (p : Nat) : Int := if xs.head? = some p then c p else 0
theorem SInv.even (h : SInv S c xs carry e o) (hp : nextAt xs carry e = some p) (h0 : hereAt c xs carry p ≠ 0) (h2 : hereAt c xs carry p % 2 = 0) :
    SInv S c (restAt xs p) (hereAt c xs carry p / 2) (p + 1) o where
  up := rest_up h.up
  low := fun _ => h.rest_low hp
  sum := by
    have := h.sum_here hp
    rw [mul_two_pow, show 2 * (hereAt c xs carry p / 2) = hereAt c xs carry p by omega]; exact this
  form := h.form
  next := by
    intro q hq
    have hu := (h.next p hp).1
    have hq' : p + 1 ≤ q := by
      unfold nextAt at hq
      split at hq
      · omega
      · cases hq; omega
    refine ⟨hu.mono (by omega), ?_⟩
    intro t l ho ht
    subst ho
    have := hu.1
    omega
theorem SInv.odd (h : SInv S c xs carry e o) (hp : nextAt xs carry e = some p) (left : Int) (hl : left = 1 ∨ left = -1)
    (h4 : (hereAt c xs carry p + 2 * aboveAt c (restAt xs p) (p + 1) - left) % 4 = 0) (h2 : hereAt c xs carry p % 2 ≠ 0) :
    SInv S c (restAt xs p) ((hereAt c xs carry p - left) / 2) (p + 1) ((decide (left < 0), p) :: o) := by
  have hu := (h.next p hp)
  have hnot : ∀ t l, o = t :: l → t.2 + 2 ≤ p := by
    intro t l ho
    have h1 := hu.2 t l ho
    subst ho
    have := hu.1.1
    by_cases hh : t.2 + 1 = p
    · exact absurd (h1 hh) h2
    · omega
  have hund : Under (p + 1) ((decide (left < 0), p) :: o) := by
    refine ⟨by simp, ?_, ?_⟩
    · cases o with
      | nil => trivial
      | cons t l => have := hnot t l rfl; exact ⟨by simp; omega, hu.1.2⟩
    · intro ho
      cases o with
      | nil => simp at ho
      | cons t l => have := hnot t l rfl; simp; omega
  refine ⟨rest_up h.up, fun _ => h.rest_low hp, ?_, ⟨_, hund⟩, ?_⟩
  · have hs := h.sum_here hp
    rw [mul_two_pow, show 2 * ((hereAt c xs carry p - left) / 2) = hereAt c xs carry p - left by omega, Int.sub_mul]
    have : tv (decide (left < 0), p) = left * 2 ^ p := by
      unfold tv; rcases hl with rfl | rfl <;> simp
    simp only [val, this]
    omega
  · intro q hq
    have hrl := h.rest_low hp
    have hq' : p + 1 ≤ q := by
      unfold nextAt at hq
      split at hq
      · exact hrl q (List.mem_of_mem_head? hq)
      · cases hq; omega
    refine ⟨hund.mono hq', ?_⟩
    intro t l ho ht
    cases ho
    simp at ht
    subst ht
    have : hereAt c (restAt xs p) ((hereAt c xs carry p - left) / 2) (p + 1) = (hereAt c xs carry p - left) / 2 + aboveAt c (restAt xs p) (p + 1) := rfl
    rw [this]
    omega
end
end Go.Proofs.Ytgchfbfgjanaiaa.Sr

namespace Go.Proofs.Ytgchfbfgjanaiaa.Sr
noncomputable def exps (x : Int) : List Nat := (form x).map (·.2)
theorem mem_exps {x : Int} {e : Nat} : e ∈ exps x ↔ ∃ t ∈ form x, t.2 = e := by simp [exps]
theorem under_mem : ∀ (l : List T) (n : Nat), Under n l → ∀ t ∈ l, t.2 < n
  | [], _, _, _, h => by simp at h
  | s :: l, n, hu, t, h => by
    rcases List.mem_cons.1 h with rfl | h
    · exact hu.1
    · have := under_mem l _ hu.2.1 t h
      have := hu.1
      omega
theorem lt_two_pow (n : Nat) : (n : Int) < 2 ^ n := by
  induction n with
  | zero => decide
  | succ n ih => rw [pow_succ']; omega
theorem four_pow_lt (n : Nat) : 3 * (n : Int) ≤ 2 ^ (n + 1) := by
  induction n with
  | zero => decide
  | succ n ih => rw [pow_succ']; have := lt_two_pow n; rw [pow_succ'] at ih ⊢; omega
theorem exps_lt {x : Int} {e : Nat} (h : e ∈ exps x) : e < x.natAbs := by
  obtain ⟨t, ht, rfl⟩ := mem_exps.1 h
  obtain ⟨n, hu⟩ := form_form x
  have hv := val_form x
  cases hf : form x with
  | nil => rw [hf] at ht; simp at ht
  | cons s l =>
    rw [hf] at ht hu hv
    have hts : t.2 ≤ s.2 := by
      have := under_mem (s :: l) (s.2 + 1) ⟨by omega, hu.2⟩ t ht
      omega
    have hp := val_pos hu
    have h4 := four_pow_lt s.2
    rw [hv] at hp
    cases hs : s.1
    · have := hp.1 hs; omega
    · have := hp.2 hs; omega
inductive Part : Nat → Int → Prop
  | here {e : Nat} {x : Int} : e ∈ exps x → Part e x
  | deep {e f : Nat} {x : Int} : e ∈ exps x → Part f (e : Int) → Part f x
theorem Part.lt {e : Nat} {x : Int} (h : Part e x) : e < x.natAbs := by
  induction h with
  | here h => exact exps_lt h
  | deep h _ ih => have := exps_lt h; simp at ih; omega
theorem Part.trans {e f : Nat} {x : Int} (h : Part e x) (k : Part f (e : Int)) : Part f x := by
  induction h with
  | here h => exact .deep h k
  | deep h _ ih => exact .deep h (ih k)
theorem Part.up {e f : Nat} {x : Int} (h : Part e x) (k : f ∈ exps (e : Int)) : Part f x := h.trans (.here k)
open Classical in
noncomputable def plist (x : Int) : List Nat := (List.range x.natAbs).filter fun e => decide (Part e x)
theorem mem_plist {e : Nat} {x : Int} : e ∈ plist x ↔ Part e x := by
  unfold plist
  simp only [List.mem_filter, List.mem_range, decide_eq_true_eq]
  exact ⟨fun h => h.2, fun h => ⟨h.lt, h⟩⟩
theorem plist_up (x : Int) : (plist x).Pairwise (· < ·) := by
  unfold plist
  exact List.Pairwise.filter _ List.pairwise_lt_range
theorem up_ext : ∀ {a b : List Nat}, a.Pairwise (· < ·) → b.Pairwise (· < ·) → (∀ x, x ∈ a ↔ x ∈ b) → a = b
  | [], [], _, _, _ => rfl
  | [], y :: b, _, _, h => by have := (h y).2 (by simp); simp at this
  | x :: a, [], _, _, h => by have := (h x).1 (by simp); simp at this
  | x :: a, y :: b, ha, hb, h => by
    have ha' := List.pairwise_cons.1 ha
    have hb' := List.pairwise_cons.1 hb
    have e : x = y := by
      rcases List.mem_cons.1 ((h x).1 (by simp)) with e | hx
      · exact e
      · rcases List.mem_cons.1 ((h y).2 (by simp)) with e | hy
        · exact e.symm
        · have := ha'.1 y hy; have := hb'.1 x hx; omega
    subst e
    congr 1
    refine up_ext ha'.2 hb'.2 fun z => ⟨fun hz => ?_, fun hz => ?_⟩
    · rcases List.mem_cons.1 ((h z).1 (by simp [hz])) with e | hz'
      · have := ha'.1 z hz; omega
      · exact hz'
    · rcases List.mem_cons.1 ((h z).2 (by simp [hz])) with e | hz'
      · have := hb'.1 z hz; omega
      · exact hz'
theorem plist_of {x : Int} {l : List Nat} (hu : l.Pairwise (· < ·)) (h : ∀ e, e ∈ l ↔ Part e x) : plist x = l :=
  up_ext (plist_up x) hu fun e => mem_plist.trans (h e).symm
noncomputable def weight (x : Int) : Nat := (plist x).length + 1
noncomputable def height (x : Int) : Nat := (exps x).attach.foldr (fun e m => max (height (e.1 : Int) + 1) m) 0
  termination_by x.natAbs
  decreasing_by have := exps_lt e.2; simpa using this
theorem foldr_attach_max (f : Nat → Nat) (l : List Nat) : l.attach.foldr (fun e m => max (f e.1) m) 0 = l.foldr (fun e m => max (f e) m) 0 := by
  rw [List.foldr_attach (f := fun e m => max (f e) m)]
theorem height_eq (x : Int) : height x = (exps x).foldr (fun (e : Nat) m => max (height (e : Int) + 1) m) 0 := by
  rw [height]
  exact foldr_attach_max (fun (e : Nat) => height (e : Int) + 1) (exps x)
def Allowed (x : Int) : Prop :=
  (form x).length ≤ 300 ∧ (∀ e, Part e x → (form (e : Int)).length ≤ 300) ∧ weight x ≤ 2000 ∧ height x ≤ 100
theorem exps_zero : exps 0 = [] := by simp [exps, form_zero]
theorem not_part_zero {e : Nat} : ¬ Part e 0 := fun h => by have := h.lt; simp at this
theorem plist_zero : plist 0 = [] := by simp [plist]
theorem allowed_zero : Allowed 0 := by
  refine ⟨by simp [form_zero], fun e h => absurd h not_part_zero, by simp [weight, plist_zero], ?_⟩
  rw [height_eq, exps_zero]; simp
theorem part_iff {f : Nat} {x : Int} : Part f x ↔ ∃ e ∈ exps x, f = e ∨ Part f (e : Int) := by
  constructor
  · intro h
    cases h with
    | here h => exact ⟨f, h, .inl rfl⟩
    | deep h k => exact ⟨_, h, .inr k⟩
  · rintro ⟨e, he, rfl | h⟩
    · exact .here he
    · exact .deep he h
noncomputable def enc (v : List Int) (x : Int) : List (Bool × Nat) := (form x).map fun t => (t.1, v.idxOf (t.2 : Int))
def Cov (v : List Int) (x : Int) : Prop := ∀ t ∈ form x, (t.2 : Int) ∈ v
structure Cl (v : List Int) : Prop where
  zero : v[0]? = some 0
  nodup : v.Nodup
  ahead : ∀ (i : Nat) (x : Int), v[i]? = some x → ∀ t ∈ form x, ∃ j, j < i ∧ v[j]? = some (t.2 : Int)
theorem idxOf_of {v : List Int} (h : v.Nodup) {i : Nat} {x : Int} (hx : v[i]? = some x) : v.idxOf x = i := by
  obtain ⟨hi, rfl⟩ := List.getElem?_eq_some_iff.1 hx
  exact h.idxOf_getElem i hi
theorem idxOf_get {v : List Int} {x : Int} (h : x ∈ v) : v[v.idxOf x]? = some x := by
  rw [List.getElem?_eq_getElem (List.idxOf_lt_length_of_mem h)]; simp
theorem Cl.cov {v : List Int} (h : Cl v) {x : Int} (hx : x ∈ v) : Cov v x := by
  obtain ⟨i, hi⟩ := List.mem_iff_getElem?.1 hx
  intro t ht
  obtain ⟨j, _, hj⟩ := h.ahead i x hi t ht
  exact List.mem_of_getElem? hj
theorem Cov.mono {v v' : List Int} {x : Int} (h : Cov v x) (hp : v <+: v') : Cov v' x := fun t ht => hp.subset (h t ht)
theorem idxOf_prefix {v v' : List Int} (hp : v <+: v') {x : Int} (h : x ∈ v) : v'.idxOf x = v.idxOf x := by
  obtain ⟨u, rfl⟩ := hp
  rw [List.idxOf_append, if_pos h]
theorem enc_prefix {v v' : List Int} (hp : v <+: v') {x : Int} (h : Cov v x) : enc v' x = enc v x := by
  unfold enc
  apply List.map_congr_left
  intro t ht
  rw [idxOf_prefix hp (h t ht)]
theorem idxOf_inj {v : List Int} {x y : Int} (hx : x ∈ v) (h : v.idxOf x = v.idxOf y) : x = y := by
  have h1 := idxOf_get hx
  rw [h] at h1
  have hy : y ∈ v := by
    have := (List.getElem?_eq_some_iff.1 h1).1
    exact List.idxOf_lt_length_iff.1 this
  have h2 := idxOf_get hy
  rw [h1] at h2
  exact Option.some.inj h2
theorem map_enc_inj {v : List Int} : ∀ {a b : List T}, (∀ t ∈ a, (t.2 : Int) ∈ v) →
    a.map (fun t => (t.1, v.idxOf (t.2 : Int))) = b.map (fun t => (t.1, v.idxOf (t.2 : Int))) → a = b
  | [], [], _, _ => rfl
  | [], _ :: _, _, h => by simp at h
  | _ :: _, [], _, h => by simp at h
  | s :: a, t :: b, ha, h => by
    simp only [List.map_cons, List.cons.injEq, Prod.mk.injEq] at h
    have e := idxOf_inj (ha s (by simp)) h.1.2
    have e2 : s = t := Prod.ext h.1.1 (by exact_mod_cast e)
    rw [e2, map_enc_inj (fun u hu => ha u (by simp [hu])) h.2]
theorem enc_inj {v : List Int} {x y : Int} (hx : Cov v x) (h : enc v x = enc v y) : x = y := by
  have := map_enc_inj hx h
  rw [← val_form x, ← val_form y, this]
theorem Cl.push {v : List Int} (h : Cl v) {x : Int} (hx : x ∉ v) (hc : Cov v x) : Cl (v ++ [x]) where
  zero := by
    have := h.zero
    cases v with
    | nil => simp at this
    | cons a l => simpa using this
  nodup := by
    rw [List.nodup_append]
    refine ⟨h.nodup, by simp, ?_⟩
    intro a ha b hb
    simp at hb
    subst hb
    intro e
    exact hx (e ▸ ha)
  ahead := by
    intro i y hy t ht
    by_cases hi : i < v.length
    · rw [List.getElem?_append_left hi] at hy
      obtain ⟨j, hj, hv⟩ := h.ahead i y hy t ht
      exact ⟨j, hj, by rw [List.getElem?_append_left (by omega)]; exact hv⟩
    · rw [List.getElem?_append_right (by omega)] at hy
      have h0 : i - v.length = 0 := by
        rcases Nat.eq_zero_or_pos (i - v.length) with h0 | h0
        · exact h0
        · rw [List.getElem?_eq_none (by simp; omega)] at hy; simp at hy
      rw [h0] at hy
      simp at hy
      subst hy
      obtain ⟨j, hj⟩ := List.mem_iff_getElem?.1 (hc t ht)
      have := (List.getElem?_eq_some_iff.1 hj).1
      exact ⟨j, by omega, by rw [List.getElem?_append_left (by omega)]; exact hj⟩
end Go.Proofs.Ytgchfbfgjanaiaa.Sr

namespace Go.Proofs.Ytgchfbfgjanaiaa.Sr
theorem form_up (k : Nat) (x : Int) : form (2 ^ k * x) = up k (form x) := by
  obtain ⟨n, h⟩ := form_form x
  exact form_of ⟨_, under_up k _ _ h⟩ (by rw [val_up, val_form])
theorem form_odd (z : Int) (m : Bool) : form (4 * z + one m) = up 2 (form z) ++ [(m, 0)] := by
  obtain ⟨n, h⟩ := form_form z
  refine form_of ⟨_, under_snoc' m _ _ h⟩ ?_
  rw [val_append, val_up, val_form]
  cases m <;> simp [val, tv, one]
theorem exps_up (k : Nat) (x : Int) : exps (2 ^ k * x) = (exps x).map (· + k) := by
  simp [exps, form_up, up]
theorem exps_two (x : Int) : exps (2 * x) = (exps x).map (· + 1) := by simpa using exps_up 1 x
theorem exps_four (x : Int) : exps (4 * x) = (exps x).map (· + 2) := by simpa using exps_up 2 x
theorem exps_odd (z : Int) (m : Bool) : exps (4 * z + one m) = (exps z).map (· + 2) ++ [0] := by
  simp [exps, form_odd, up]
theorem exps_one (z : Int) : exps (4 * z + 1) = (exps z).map (· + 2) ++ [0] := exps_odd z false
theorem exps_mone (z : Int) : exps (4 * z - 1) = (exps z).map (· + 2) ++ [0] := exps_odd z true
def neg (l : List T) : List T := l.map fun t => (!t.1, t.2)
theorem val_neg : ∀ l : List T, val (neg l) = -val l
  | [] => rfl
  | t :: l => by
    have := val_neg l
    simp only [neg, List.map_cons, val] at this ⊢
    rw [this]
    cases h : t.1 <;> simp [tv, h] <;> omega
theorem under_neg : ∀ (l : List T) (n : Nat), Under n l → Under n (neg l)
  | [], _, _ => trivial
  | t :: l, n, h => ⟨h.1, under_neg l _ h.2.1, fun hl => h.2.2 (by intro e; subst e; exact hl rfl)⟩
theorem form_neg (x : Int) : form (-x) = neg (form x) := by
  obtain ⟨n, h⟩ := form_form x
  exact form_of ⟨n, under_neg _ _ h⟩ (by rw [val_neg, val_form])
theorem exps_neg (x : Int) : exps (-x) = exps x := by simp [exps, form_neg, neg]
theorem exps_succ (x : Int) : ∀ e ∈ exps (x + 1), e = 0 ∨ e ∈ exps x ∨ ∃ f ∈ exps x, e = f + 1 := by
  generalize hk : x.natAbs = k
  induction k using Nat.strongRecOn generalizing x with
  | _ k ih =>
    intro e he
    have h4 : x % 4 = 0 ∨ x % 4 = 1 ∨ x % 4 = 2 ∨ x % 4 = 3 := by omega
    rcases h4 with h | h | h | h
    · obtain ⟨z, rfl⟩ : ∃ z, x = 4 * z := ⟨x / 4, by omega⟩
      rw [exps_one] at he
      rw [exps_four]
      simp only [List.mem_append, List.mem_singleton] at he
      rcases he with he | he
      · exact .inr (.inl he)
      · exact .inl he
    · obtain ⟨z, rfl⟩ : ∃ z, x = 4 * z + 1 := ⟨x / 4, by omega⟩
      rw [show 4 * z + 1 + 1 = 2 * (2 * z + 1) by omega, exps_two] at he
      rw [exps_one]
      obtain ⟨g, hg, rfl⟩ := List.mem_map.1 he
      by_cases hz : z = 0
      · subst hz
        have : exps (2 * 0 + 1) = [0] := by simpa [exps_zero] using exps_one 0
        rw [this] at hg
        simp at hg
        subst hg
        exact .inr (.inr ⟨0, by simp, rfl⟩)
      · have := ih (2 * z).natAbs (by omega) (2 * z) rfl g hg
        rw [exps_two] at this
        rcases this with rfl | h | ⟨f, hf, rfl⟩
        · exact .inr (.inr ⟨0, by simp, rfl⟩)
        · obtain ⟨a, ha, rfl⟩ := List.mem_map.1 h
          exact .inr (.inl (by simp; exact ha))
        · obtain ⟨a, ha, rfl⟩ := List.mem_map.1 hf
          exact .inr (.inr ⟨a + 2, by simp; exact ha, rfl⟩)
    · obtain ⟨z, rfl⟩ : ∃ z, x = 4 * z + 2 := ⟨x / 4, by omega⟩
      rw [show 4 * z + 2 + 1 = 4 * (z + 1) - 1 by omega, exps_mone] at he
      rw [show 4 * z + 2 = 2 * (2 * z + 1) by omega, exps_two]
      simp only [List.mem_append, List.mem_singleton] at he
      rcases he with he | he
      · obtain ⟨g, hg, rfl⟩ := List.mem_map.1 he
        have h2 : z % 2 = 0 ∨ z % 2 = 1 := by omega
        rcases h2 with h2 | h2
        · obtain ⟨u, rfl⟩ : ∃ u, z = 2 * u := ⟨z / 2, by omega⟩
          rw [show 2 * (2 * u) + 1 = 4 * u + 1 by omega, exps_one]
          have := ih (2 * u).natAbs (by omega) (2 * u) rfl g hg
          rw [exps_two] at this
          rcases this with rfl | h | ⟨f, hf, rfl⟩
          · exact .inr (.inr ⟨1, by simp, rfl⟩)
          · obtain ⟨a, ha, rfl⟩ := List.mem_map.1 h
            exact .inr (.inl (by simp; exact ha))
          · obtain ⟨a, ha, rfl⟩ := List.mem_map.1 hf
            exact .inr (.inr ⟨a + 3, by simp; exact ha, rfl⟩)
        · obtain ⟨u, rfl⟩ : ∃ u, z = 2 * u - 1 := ⟨(z + 1) / 2, by omega⟩
          rw [show 2 * (2 * u - 1) + 1 = 4 * u - 1 by omega, exps_mone]
          rw [show 2 * u - 1 + 1 = 2 * u by omega, exps_two] at hg
          obtain ⟨a, ha, rfl⟩ := List.mem_map.1 hg
          exact .inr (.inl (by simp; exact ha))
      · exact .inl he
    · obtain ⟨z, rfl⟩ : ∃ z, x = 4 * z - 1 := ⟨(x + 1) / 4, by omega⟩
      rw [show 4 * z - 1 + 1 = 4 * z by omega, exps_four] at he
      rw [exps_mone]
      exact .inr (.inl (by simp only [List.mem_append]; exact .inl he))
theorem exps_pred (x : Int) : ∀ e ∈ exps (x - 1), e = 0 ∨ e ∈ exps x ∨ ∃ f ∈ exps x, e = f + 1 := by
  intro e he
  have := exps_succ (-x) e (by rw [show -x + 1 = -(x - 1) by omega, exps_neg]; exact he)
  simpa only [exps_neg] using this
end Go.Proofs.Ytgchfbfgjanaiaa.Sr

namespace Go.Proofs.Ytgchfbfgjanaiaa
open Go.RowKit
structure Sealed (p : Prop) : Prop where
  out : p
structure Ext (M : Nat → Prop) (w w' : World) : Prop where
  os : w'.os = w.os
  tape : w'.tape = w.tape
  output : w'.output = w.output
  size : w.heap.size ≤ w'.heap.size
  block : ∀ k, k < w.heap.size → ¬ M k → w'.heap[k]? = w.heap[k]?
def noB : Nat → Prop := fun _ => False
section
variable {M N : Nat → Prop} {w w1 w2 : World}
theorem Ext.refl (M : Nat → Prop) (w : World) : Ext M w w := ⟨rfl, rfl, rfl, Nat.le_refl _, fun _ _ _ => rfl⟩
theorem Ext.trans (h : Ext M w w1) (k : Ext N w1 w2) (hN : ∀ b, N b → M b ∨ w.heap.size ≤ b) : Ext M w w2 :=
  ⟨k.os.trans h.os, k.tape.trans h.tape, k.output.trans h.output, Nat.le_trans h.size k.size, fun b hb hM =>
    (k.block b (Nat.lt_of_lt_of_le hb h.size) (fun hn => by rcases hN b hn with hm | hs; exact hM hm; omega)).trans (h.block b hb hM)⟩
theorem Ext.same (h : Ext M w w1) (k : Ext M w1 w2) : Ext M w w2 := h.trans k fun _ hb => .inl hb
theorem Ext.imp (h : Ext N w w1) (hN : ∀ b, N b → M b ∨ w.heap.size ≤ b) : Ext M w w1 := (Ext.refl M w).trans h hN
theorem Ext.of_below (h : Below w.heap.size w w1) : Ext M w w1 := ⟨h.os, h.tape, h.output, h.size, fun k hk _ => h.block k hk⟩
theorem Ext.below (h : Ext noB w w1) : Below w.heap.size w w1 := ⟨h.os, h.tape, h.output, h.size, fun k hk => h.block k hk (fun h => h)⟩
theorem Ext.alloc (h : Ext M w w1) (o : Obj) : Ext M w (w1.alloc o) :=
  h.trans (N := noB) ⟨rfl, rfl, rfl, by simp, fun k hk _ => Below.heap_alloc w1 o k hk⟩ fun _ hb => hb.elim
theorem Ext.drew (h : Ext M w w1) : Ext M w w1.drew := ⟨h.os, h.tape, h.output, h.size, h.block⟩
theorem Ext.drewN (h : Ext M w w1) (n : Nat) : Ext M w (w1.drewN n) := ⟨h.os, h.tape, h.output, h.size, h.block⟩
theorem Ext.setCell (h : Ext M w w1) {p : Addr} (hp : M p.block ∨ w.heap.size ≤ p.block) (u : Value) : Ext M w (w1.setCell p u) :=
  h.trans (N := fun b => b = p.block) ⟨rfl, rfl, rfl, by simp [World.setCell], fun k _ hk => Below.heap_setCell _ _ _ _ hk⟩ fun b hb => hb ▸ hp
theorem Ext.grown (h : Ext M w w1) {row : Option Nat} (g : w1.grownBy w2 row) (hr : ∀ k, row = some k → M k ∨ w.heap.size ≤ k) : Ext M w w2 :=
  h.trans (N := fun b => row = some b) ⟨g.os, g.tape, g.output, g.size, fun k hk hn => g.block k hk (fun e => hn e.symm)⟩ hr
theorem Ext.get (h : Ext M w w1) {b : Nat} {o : Obj} (hb : w.heap[b]? = some o) (hM : ¬ M b) : w1.heap[b]? = some o :=
  (h.block b (Array.getElem?_eq_some_iff.1 hb).1 hM).trans hb
theorem lt_of_blk {b : Nat} {o : Obj} (hb : w.heap[b]? = some o) : b < w.heap.size := (Array.getElem?_eq_some_iff.1 hb).1
theorem blk_alloc (w : World) (o : Obj) : (w.alloc o).heap[w.heap.size]? = some o := Go.heap_alloc_new w o
theorem blk_alloc_old {b : Nat} {o : Obj} (hb : w.heap[b]? = some o) (o' : Obj) : (w.alloc o').heap[b]? = some o := (Below.heap_alloc w o' b (lt_of_blk hb)).trans hb
theorem cell_of_blk {b : Nat} {cs : Array Value} {t : TypeId} {fz : Nat × Nat} (hb : w.heap[b]? = some (.cells cs t fz)) (i : Nat) : w.cell? ⟨b, i, none⟩ = cs[i]? := by
  simp [World.cell?, hb]
theorem frozen_of_blk {b : Nat} {cs : Array Value} {t : TypeId} (hb : w.heap[b]? = some (.cells cs t (0, 0))) (i : Nat) : w.frozen? ⟨b, i, none⟩ = false := by
  simp [World.frozen?, hb]
theorem cell_same {b : Nat} (h : w1.heap[b]? = w.heap[b]?) (i : Nat) : w1.cell? ⟨b, i, none⟩ = w.cell? ⟨b, i, none⟩ := by simp [World.cell?, h]
theorem lt_of_cell {b i : Nat} {v : Value} (h : w.cell? ⟨b, i, none⟩ = some v) : b < w.heap.size := World.block_lt_of_cell? w _ h
end
def Reads (w : World) (b o : Nat) (cs : List Value) : Prop := ∀ j u, cs[j]? = some u → w.cell? ⟨b, o + j, none⟩ = some u
theorem Reads.same {w w1 : World} {b o : Nat} {cs : List Value} (h : Reads w b o cs) (hb : w1.heap[b]? = w.heap[b]?) : Reads w1 b o cs :=
  fun j u hu => (cell_same hb _).trans (h j u hu)
def tcells : List (Bool × Nat) → List Value
  | [] => []
  | t :: l => .bool t.1 :: .int .i64 (t.2 : Int) :: tcells l
theorem tcells_length : ∀ l : List (Bool × Nat), (tcells l).length = l.length * 2
  | [] => rfl
  | t :: l => by simp [tcells, tcells_length l]; omega
theorem tcells_append : ∀ a b : List (Bool × Nat), tcells (a ++ b) = tcells a ++ tcells b
  | [], b => rfl
  | t :: a, b => by simp [tcells, tcells_append a b]
theorem tcells_at : ∀ (l : List (Bool × Nat)) (i : Nat) (t : Bool × Nat), l[i]? = some t → (tcells l)[i * 2]? = some (.bool t.1) ∧ (tcells l)[i * 2 + 1]? = some (.int .i64 (t.2 : Int))
  | [], i, t, h => by simp at h
  | s :: l, 0, t, h => by simp at h; subst h; simp [tcells]
  | s :: l, i + 1, t, h => by
    have := tcells_at l i t (by simpa using h)
    have e : (i + 1) * 2 = i * 2 + 1 + 1 := by omega
    rw [e]
    simpa [tcells] using this
theorem tcells_one (l : List (Bool × Nat)) : ∀ u ∈ tcells l, u.oneCell' = true := by
  induction l with
  | nil => simp [tcells]
  | cons t l ih =>
    intro u hu
    simp only [tcells, List.mem_cons] at hu
    rcases hu with rfl | rfl | hu
    · rfl
    · rfl
    · exact ih u hu
def TyBlk (w : World) (b t : Nat) : Prop := ∃ cs fz, w.heap[b]? = some (.cells cs t fz)
theorem TyBlk.same {w w1 : World} {b t : Nat} (h : TyBlk w b t) (hb : w1.heap[b]? = w.heap[b]?) : TyBlk w1 b t := by
  obtain ⟨cs, fz, e⟩ := h
  exact ⟨cs, fz, hb.trans e⟩
structure TReads (w : World) (b o : Nat) (cs : List Value) : Prop where
  reads : Reads w b o cs
  ty : TyBlk w b 98
theorem TReads.same {w w1 : World} {b o : Nat} {cs : List Value} (h : TReads w b o cs) (hb : w1.heap[b]? = w.heap[b]?) : TReads w1 b o cs := ⟨h.reads.same hb, h.ty.same hb⟩
def TL (w : World) (v : Value) (l : List (Bool × Nat)) : Prop :=
  l.length ≤ 100000 ∧ (∀ b, v.ownBlock = some b → b < w.heap.size) ∧ ∃ a c, v = .slice a l.length c ∧ l.length ≤ c ∧ (l ≠ [] → ∃ b o, a = some ⟨b, o, none⟩ ∧ TReads w b o (tcells l))
theorem TL.lt {w : World} {v : Value} {l : List (Bool × Nat)} (h : TL w v l) : ∀ b, v.ownBlock = some b → b < w.heap.size := h.2.1
theorem TL.same {w w1 : World} {v : Value} {l : List (Bool × Nat)} (h : TL w v l) (hs : w.heap.size ≤ w1.heap.size) (hb : ∀ b, v.ownBlock = some b → b < w.heap.size → w1.heap[b]? = w.heap[b]?) : TL w1 v l := by
  obtain ⟨h1, h0, a, c, rfl, h2, h3⟩ := h
  refine ⟨h1, fun b h => Nat.lt_of_lt_of_le (h0 b h) hs, a, c, rfl, h2, fun hl => ?_⟩
  obtain ⟨b, o, rfl, hr⟩ := h3 hl
  exact ⟨b, o, rfl, hr.same (hb b rfl (h0 b rfl))⟩
theorem TL.ext {M : Nat → Prop} {w w1 : World} {v : Value} {l : List (Bool × Nat)} (h : TL w v l) (e : Ext M w w1) (hM : ∀ b, v.ownBlock = some b → ¬ M b) : TL w1 v l :=
  h.same e.size fun b hb hlt => e.block b hlt (hM b hb)
theorem TL.below {w w1 : World} {v : Value} {l : List (Bool × Nat)} (h : TL w v l) (e : Below w.heap.size w w1) : TL w1 v l :=
  h.same e.size fun b _ hlt => e.block b hlt
theorem TL.cells {w : World} {a : Option Addr} {n c : Nat} {l : List (Bool × Nat)} (h : TL w (.slice a n c) l) :
    n = l.length ∧ n ≤ 100000 ∧ n ≤ c ∧ ∀ i t, l[i]? = some t → ∃ b o, a = some ⟨b, o, none⟩ ∧ w.cell? ⟨b, o + i * 2, none⟩ = some (.bool t.1) ∧ w.cell? ⟨b, o + i * 2 + 1, none⟩ = some (.int .i64 (t.2 : Int)) := by
  obtain ⟨h1, h0, a', c', hv, h2, h3⟩ := h
  simp only [Value.slice.injEq] at hv
  obtain ⟨rfl, rfl, rfl⟩ := hv
  refine ⟨rfl, h1, h2, fun i t ht => ?_⟩
  obtain ⟨b, o, rfl, hr⟩ := h3 (by intro e; subst e; simp at ht)
  obtain ⟨e1, e2⟩ := tcells_at l i t ht
  exact ⟨b, o, rfl, hr.reads _ _ e1, by rw [Nat.add_assoc]; exact hr.reads _ _ e2⟩
theorem TL.slice {w : World} {v : Value} {l : List (Bool × Nat)} (h : TL w v l) : ∃ a n c, v = .slice a n c := by
  obtain ⟨_, _, a, c, rfl, _⟩ := h; exact ⟨a, _, c, rfl⟩
theorem TL.of_own {w : World} {B : Nat} {v : Value} {l : List (Bool × Nat)} (h : w.ownsRow B 98 2 v l.length (tcells l)) (hl : l.length ≤ 100000) : TL w v l := by
  have hlt := fun b hb => (h.lt b hb).2
  rcases h.2 with ⟨rfl, h0⟩ | ⟨g, cap, cur, rfl, hb, hg, hn, hc, hs, ht⟩
  · exact ⟨hl, hlt, none, 0, by rw [h0], by omega, fun hne => absurd (List.eq_nil_of_length_eq_zero h0) hne⟩
  · refine ⟨hl, hlt, _, cap, rfl, hn, fun _ => ⟨g, 0, rfl, fun j u hu => ?_, ⟨_, _, hg⟩⟩⟩
    have hcell := h.cells (g := g) rfl j u hu
    have : (⟨g, 0, none⟩ : Addr).add j = ⟨g, 0 + j, none⟩ := by unfold Addr.add; split <;> simp_all
    rw [this] at hcell
    exact hcell
theorem blk_setCell {w : World} {b : Nat} {cs : Array Value} {t : TypeId} {fz : Nat × Nat} (h : w.heap[b]? = some (.cells cs t fz)) (i : Nat) (u : Value) : (w.setCell ⟨b, i, none⟩ u).heap[b]? = some (.cells (cs.setIfInBounds i u) t fz) := by
  simp [World.setCell, Array.getElem?_modify, h]
theorem getElem?_prefix {α : Type} {a b : List α} (h : a <+: b) {i : Nat} {x : α} (hx : a[i]? = some x) : b[i]? = some x := by
  obtain ⟨u, rfl⟩ := h
  rw [List.getElem?_append_left (List.getElem?_eq_some_iff.1 hx).1]; exact hx
theorem own_ge {w : World} {B e s n : Nat} {v : Value} {xs : List Value} (h : w.ownsRow B e s v n xs) : ∀ k, v.ownBlock = some k → B ≤ k := fun k hk => (h.lt k hk).1
theorem _root_.Go.World.ownsRow.drewN {w : World} {B e s n m : Nat} {v : Value} {xs : List Value} (h : w.ownsRow B e s v n xs) : (w.drewN m).ownsRow B e s v n xs := h
theorem take_snoc {α : Type} {l : List α} {k : Nat} {t : α} (h : l[k]? = some t) : l.take (k + 1) = l.take k ++ [t] := by
  rw [List.take_add_one, h]; rfl
theorem own_block {w : World} {B e s n : Nat} {v : Value} {xs : List Value} (h : w.ownsRow B e s v n xs) : ∀ b, v.ownBlock = some b → B ≤ b ∧ b < w.heap.size := h.lt
theorem own_slice {w : World} {B e s n : Nat} {v : Value} {xs : List Value} (h : w.ownsRow B e s v n xs) : ∃ a c, v = .slice a n c := by
  rcases h.2 with ⟨rfl, rfl⟩ | ⟨g, cap, cur, rfl, _⟩
  · exact ⟨none, 0, rfl⟩
  · exact ⟨_, cap, rfl⟩
end Go.Proofs.Ytgchfbfgjanaiaa

namespace Go.Proofs.Ytgchfbfgjanaiaa
open Go.RowKit
structure KeyKind (P : Program) (kt : TypeId) {K : Type} [DecidableEq K] (ek : K → Value) : Prop where
  desc : ∃ d, P.underlying kt = some d ∧ ∀ a b, Instr.sameNow d (ek a) (ek b) = none ∨ Instr.sameNow d (ek a) (ek b) = some (decide (a = b))
  check : ∀ b k (w : World), (Instr.checkKey b 10000 kt (ek k)).run P w = .ok () w
  equal : ∀ a b (w : World), (Op.equal kt (ek a) (ek b)).run P w = .ok (decide (a = b)) w
  bits : ∀ a, Instr.sameBits 10000 (ek a) (ek a) = true
section
variable {P : Program} {kt : TypeId} {K : Type} [DecidableEq K] {ek : K → Value}
def findFrom (k : K) : List (K × Int) → Nat → Option (Nat × Value)
  | [], _ => none
  | p :: l, i => if k = p.1 then some (i, .int .i64 p.2) else findFrom k l (i + 1)
def lookK (l : List (K × Int)) (k : K) : Option Int := (l.find? fun p => k = p.1).map (·.2)
def EntriesAre (ek : K → Value) (es : List MapEntry) (l : List (K × Int)) : Prop := es.map (fun e => (e.key, e.val)) = l.map fun p => (ek p.1, .int .i64 p.2)
end
section
variable {K : Type} {ek : K → Value}
theorem EntriesAre.cons {e : MapEntry} {es : List MapEntry} {l : List (K × Int)} (h : EntriesAre ek (e :: es) l) : ∃ p l', l = p :: l' ∧ e.key = ek p.1 ∧ e.val = .int .i64 p.2 ∧ EntriesAre ek es l' := by
  cases l with
  | nil => simp [EntriesAre] at h
  | cons p l' =>
    simp only [EntriesAre, List.map_cons, List.cons.injEq, Prod.mk.injEq] at h
    exact ⟨p, l', rfl, h.1.1, h.1.2, h.2⟩
end
section
variable {P : Program} {kt : TypeId} {K : Type} [DecidableEq K] {ek : K → Value}
theorem findNow_eq {d : TypeDesc} (hd : ∀ a b, Instr.sameNow d (ek a) (ek b) = none ∨ Instr.sameNow d (ek a) (ek b) = some (decide (a = b))) (k : K) :
    ∀ (es : List MapEntry) (l : List (K × Int)) (i : Nat), EntriesAre ek es l → Instr.findNow d (ek k) es i = none ∨ Instr.findNow d (ek k) es i = some (findFrom k l i)
  | [], l, i, h => by
    cases l with
    | nil => exact .inr rfl
    | cons p l => simp [EntriesAre] at h
  | e :: es, l, i, h => by
    obtain ⟨p, l', rfl, h1, h2, h3⟩ := h.cons
    have ih := findNow_eq hd k es l' (i + 1) h3
    simp only [Instr.findNow, h1, findFrom]
    rcases hd k p.1 with hn | hn
    · rw [hn]; exact .inl rfl
    · rw [hn]
      by_cases hk : k = p.1
      · simp [hk, h2]
      · simp [hk, ih]
theorem findAsking_eq (hq : ∀ a b (w : World), (Op.equal kt (ek a) (ek b)).run P w = .ok (decide (a = b)) w) (k : K) (w : World) :
    ∀ (es : List MapEntry) (l : List (K × Int)) (i : Nat), EntriesAre ek es l → (Instr.findAsking kt (ek k) es i).run P w = .ok (findFrom k l i) w
  | [], l, i, h => by
    cases l with
    | nil => rfl
    | cons p l => simp [EntriesAre] at h
  | e :: es, l, i, h => by
    obtain ⟨p, l', rfl, h1, h2, h3⟩ := h.cons
    have ih := findAsking_eq hq k w es l' (i + 1) h3
    unfold Instr.findAsking
    simp only [h1, Sem.run_bind, hq, Result.andThen_ok, findFrom]
    by_cases hk : k = p.1
    · simp [hk, h2]
    · simp [hk, ih]
theorem run_findKey (K' : KeyKind P kt ek) (k : K) (w : World) {es : List MapEntry} {l : List (K × Int)} (h : EntriesAre ek es l) :
    (Instr.findKey kt (ek k) es).run P w = .ok (findFrom k l 0) w := by
  obtain ⟨d, hd, hn⟩ := K'.desc
  unfold Instr.findKey
  simp only [Sem.run_bind, run_underlying hd, Result.andThen_ok]
  rcases findNow_eq hn k es l 0 h with e | e
  · rw [e]; exact findAsking_eq K'.equal k w es l 0 h
  · rw [e]; rfl
theorem findFrom_val (k : K) : ∀ (l : List (K × Int)) (i : Nat), (findFrom k l i).map (·.2) = (lookK l k).map (Value.int .i64)
  | [], i => rfl
  | p :: l, i => by
    by_cases hk : k = p.1
    · simp [findFrom, lookK, hk]
    · simp only [findFrom, if_neg hk, findFrom_val k l (i + 1)]
      simp [lookK, hk]
theorem findFrom_none {k : K} {l : List (K × Int)} {i : Nat} : findFrom k l i = none ↔ lookK l k = none := by
  have := findFrom_val k l i
  cases h : findFrom k l i <;> cases h' : lookK l k <;> simp [h, h'] at this ⊢
def MapIs (ek : K → Value) (w : World) (r : Nat) (l : List (K × Int)) : Prop := ∃ es c, w.heap[r]? = some (.map es c) ∧ EntriesAre ek es.toList l
end
section
variable {K : Type} {ek : K → Value}
theorem MapIs.same {w w1 : World} {r : Nat} {l : List (K × Int)} (h : MapIs ek w r l) (hb : w1.heap[r]? = w.heap[r]?) : MapIs ek w1 r l := by
  obtain ⟨es, c, h1, h2⟩ := h
  exact ⟨es, c, hb.trans h1, h2⟩
end
section
variable {P : Program} {kt : TypeId} {K : Type} [DecidableEq K] {ek : K → Value}
end
section
variable {K : Type} {ek : K → Value}
theorem MapIs.lt {w : World} {r : Nat} {l : List (K × Int)} (h : MapIs ek w r l) : r < w.heap.size := by
  obtain ⟨es, c, h1, h2⟩ := h
  exact lt_of_blk h1
end
section
variable {P : Program} {kt : TypeId} {K : Type} [DecidableEq K] {ek : K → Value}
end
section
variable {K : Type} {ek : K → Value}
theorem MapIs.made (w : World) : MapIs ek (w.alloc (.map #[] 0)) w.heap.size [] := ⟨#[], 0, blk_alloc _ _, rfl⟩
end
section
variable {P : Program} {kt : TypeId} {K : Type} [DecidableEq K] {ek : K → Value}
theorem getObj_map {w : World} {r : Nat} {es : Array MapEntry} {c : Nat} (h : w.heap[r]? = some (.map es c)) : (getObj r).run P w = .ok (.map es c) w := by
  simp [getObj, Sem.run, h]
theorem run_lookup_ok (K' : KeyKind P kt ek) {t e : TypeId} (ht : P.underlying t = some (.map kt e)) (hz : ∀ w : World, (zeroValue e).run P w = .ok (.int .i64 0) w) {w : World} {r : Nat} {l : List (K × Int)} (h : MapIs ek w r l) (k : K) :
    (Instr.lookup t (.map (some r)) (ek k) true).run P w = .ok (.tuple #[.int .i64 ((lookK l k).getD 0), .bool (lookK l k).isSome]) w := by
  obtain ⟨es, c, h1, h2⟩ := h
  unfold Instr.lookup
  simp only [Sem.run_bind, run_underlying ht, Result.andThen_ok, getObj_map h1, Sem.run_pure, K'.check, run_findKey K' k w h2]
  have hv := findFrom_val k l 0
  cases hf : findFrom k l 0 with
  | none =>
    have := findFrom_none.1 hf
    simp [this, hz, Result.andThen]
  | some y =>
    obtain ⟨i, u⟩ := y
    rw [hf] at hv
    cases hl : lookK l k with
    | none => simp [hl] at hv
    | some n => simp [hl] at hv; subst hv; simp
theorem run_lookup (K' : KeyKind P kt ek) {t e : TypeId} (ht : P.underlying t = some (.map kt e)) (hz : ∀ w : World, (zeroValue e).run P w = .ok (.int .i64 0) w) {w : World} {r : Nat} {l : List (K × Int)} (h : MapIs ek w r l) (k : K) :
    (Instr.lookup t (.map (some r)) (ek k) false).run P w = .ok (.int .i64 ((lookK l k).getD 0)) w := by
  obtain ⟨es, c, h1, h2⟩ := h
  unfold Instr.lookup
  simp only [Sem.run_bind, run_underlying ht, Result.andThen_ok, getObj_map h1, Sem.run_pure, K'.check, run_findKey K' k w h2]
  have hv := findFrom_val k l 0
  cases hf : findFrom k l 0 with
  | none =>
    have := findFrom_none.1 hf
    simp [this, hz, Result.andThen]
  | some y =>
    obtain ⟨i, u⟩ := y
    rw [hf] at hv
    cases hl : lookK l k with
    | none => simp [hl] at hv
    | some n => simp [hl] at hv; subst hv; simp
def putK (l : List (K × Int)) (k : K) (n : Int) : List (K × Int) :=
  if (lookK l k).isSome then l.map fun p => if p.1 = k then (p.1, n) else p else l ++ [(k, n)]
theorem lookK_putK (l : List (K × Int)) (k k' : K) (n : Int) : lookK (putK l k n) k' = if k' = k then some n else lookK l k' := by
  unfold putK
  by_cases hs : (lookK l k).isSome = true
  · rw [if_pos hs]
    by_cases hk : k' = k
    · subst hk
      rw [if_pos rfl]
      induction l with
      | nil => simp [lookK] at hs
      | cons p l ih =>
        by_cases hp : k' = p.1
        · simp [lookK, hp]
        · have hs' : (lookK l k').isSome = true := by simpa [lookK, hp] using hs
          have := ih hs'
          have hp' : ¬ p.1 = k' := fun e => hp e.symm
          simpa [lookK, hp, hp'] using this
    · rw [if_neg hk]
      clear hs
      induction l with
      | nil => rfl
      | cons p l ih =>
        by_cases hp : p.1 = k
        · have : ¬ k' = p.1 := fun e => hk (e.trans hp)
          simp only [List.map_cons, if_pos hp]
          simpa [lookK, this] using ih
        · simp only [List.map_cons, if_neg hp]
          by_cases hq : k' = p.1
          · simp [lookK, hq]
          · simpa [lookK, hq] using ih
  · rw [if_neg hs]
    have hn : lookK l k = none := by simpa using hs
    by_cases hk : k' = k
    · subst hk
      rw [if_pos rfl]
      have : l.find? (fun p => decide (k' = p.1)) = none := by simpa [lookK] using hn
      simp [lookK, List.find?_append, this]
    · rw [if_neg hk]
      simp only [lookK, List.find?_append]
      cases hf : l.find? (fun p => decide (k' = p.1)) <;> simp [hf, hk]
theorem findFrom_at (k : K) : ∀ (l : List (K × Int)) (i j : Nat) (v : Value), findFrom k l i = some (j, v) → i ≤ j ∧ ∃ n, l[j - i]? = some (k, n) ∧ ∀ m, m < j - i → ∀ p, l[m]? = some p → p.1 ≠ k
  | [], i, j, v, h => by simp [findFrom] at h
  | p :: l, i, j, v, h => by
    by_cases hk : k = p.1
    · simp only [findFrom, if_pos hk, Option.some.injEq, Prod.mk.injEq] at h
      obtain ⟨rfl, rfl⟩ := h
      exact ⟨Nat.le_refl _, p.2, by simp [hk], fun m hm => by omega⟩
    · simp only [findFrom, if_neg hk] at h
      obtain ⟨h1, n, h2, h3⟩ := findFrom_at k l (i + 1) j v h
      refine ⟨by omega, n, ?_, fun m hm q hq => ?_⟩
      · rw [show j - i = (j - (i + 1)) + 1 by omega]; simpa using h2
      · cases m with
        | zero => simp at hq; subst hq; exact fun e => hk e.symm
        | succ m => exact h3 m (by omega) q (by simpa using hq)
def KeysApart (l : List (K × Int)) : Prop := l.Pairwise fun p q => p.1 ≠ q.1
theorem KeysApart.put {l : List (K × Int)} (h : KeysApart l) (k : K) (n : Int) : KeysApart (putK l k n) := by
  unfold putK
  split
  · unfold KeysApart at *
    rw [List.pairwise_map]
    refine h.imp fun {p q} hpq => ?_
    split <;> split <;> simp_all
  · rename_i hs
    unfold KeysApart at *
    rw [List.pairwise_append]
    refine ⟨h, by simp, ?_⟩
    intro p hp q hq
    simp at hq
    subst hq
    intro e
    have hn : lookK l k = none := by simpa using hs
    simp only [lookK, Option.map_eq_none_iff, List.find?_eq_none] at hn
    have := hn p hp
    simp at this
    exact this e.symm
theorem modify_apart (k : K) (n : Int) : ∀ (l : List (K × Int)) (j : Nat) (n0 : Int), KeysApart l → l[j]? = some (k, n0) → (l.map fun p => if p.1 = k then (p.1, n) else p) = l.set j (k, n)
  | [], j, n0, _, h => by simp at h
  | p :: l, 0, n0, ha, h => by
    simp at h
    subst h
    have := List.pairwise_cons.1 ha
    have e : (l.map fun p => if p.1 = k then (p.1, n) else p) = l := by
      conv => rhs; rw [← List.map_id l]
      apply List.map_congr_left
      intro q hq
      rw [if_neg (fun e => this.1 q hq e.symm)]
      rfl
    simp [e]
  | p :: l, j + 1, n0, ha, h => by
    have hp := List.pairwise_cons.1 ha
    have hm : (k, n0) ∈ l := List.mem_of_getElem? (by simpa using h)
    have hne : p.1 ≠ k := hp.1 _ hm
    simp [hne, modify_apart k n l j n0 hp.2 (by simpa using h)]
theorem run_update (K' : KeyKind P kt ek) {t e : TypeId} (ht : P.underlying t = some (.map kt e)) {w : World} {r : Nat} {l : List (K × Int)} (ha : KeysApart l) (h : MapIs ek w r l) (k : K) (n : Int) :
    ∃ w', (Instr.mapUpdate t (.map (some r)) (ek k) (.int .i64 n)).run P w = .ok () w' ∧ MapIs ek w' r (putK l k n) ∧ w.grownBy w' (some r) := by
  obtain ⟨es, c, h1, h2⟩ := h
  have hset : ∀ es' c', (setObj r (.map es' c')).run P w = .ok () { w with heap := w.heap.setIfInBounds r (.map es' c') } := by
    intro es' c'; simp [setObj, Sem.run, h1]
  have hr := lt_of_blk h1
  have hget : ∀ es' c', ({ w with heap := w.heap.setIfInBounds r (.map es' c') } : World).heap[r]? = some (.map es' c') := by
    intro es' c'; simp [hr]
  have hgrow : ∀ es' c', w.grownBy { w with heap := w.heap.setIfInBounds r (.map es' c') } (some r) := by
    intro es' c'
    refine ⟨rfl, rfl, rfl, by simp, fun i _ hi => ?_⟩
    have : r ≠ i := fun e => hi (by rw [e])
    simp [Array.getElem?_setIfInBounds_ne this]
  unfold Instr.mapUpdate
  simp only [Sem.run_bind, run_underlying ht, Result.andThen_ok, getObj_map h1, K'.check, run_findKey K' k w h2]
  cases hf : findFrom k l 0 with
  | none =>
    have hn := findFrom_none.1 hf
    refine ⟨_, hset _ _, ⟨_, _, hget _ _, ?_⟩, hgrow _ _⟩
    unfold EntriesAre at *
    simp [putK, hn, h2]
  | some y =>
    obtain ⟨j, v⟩ := y
    obtain ⟨_, n0, hj, _⟩ := findFrom_at k l 0 j v hf
    simp only [Nat.sub_zero] at hj
    have hs : (lookK l k).isSome = true := by
      cases hl : lookK l k with
      | some _ => rfl
      | none => rw [findFrom_none.2 hl] at hf; simp at hf
    have hlen : es.size = l.length := by
      have := congrArg List.length h2
      simpa using this
    have hjl : j < l.length := (List.getElem?_eq_some_iff.1 hj).1
    have hjk : ((es[j]?).map (·.key)).getD (ek k) = ek k := by
      have := congrArg (fun z => z[j]?) h2
      simp only [List.getElem?_map, Array.getElem?_toList, hj] at this
      cases he : es[j]? with
      | none => simp [he] at this
      | some e0 => simp [he] at this; simp [this.1]
    have hst : (Instr.keyThatStays (((es[j]?).map (·.key)).getD (ek k)) (ek k)).run P w = .ok (ek k) w := by
      rw [hjk]; unfold Instr.keyThatStays; rw [if_pos (K'.bits k)]; rfl
    simp only [hst, Result.andThen_ok, Sem.run_bind]
    refine ⟨_, hset _ _, ⟨_, _, hget _ _, ?_⟩, hgrow _ _⟩
    unfold EntriesAre at *
    simp only [putK, hs, if_true]
    rw [modify_apart k n l j n0 ha hj]
    apply List.ext_getElem?
    intro i
    have h2i := congrArg (fun z => z[i]?) h2
    simp only [List.getElem?_map, Array.getElem?_toList] at h2i ⊢
    rw [Array.getElem?_modify, List.getElem?_set]
    by_cases hij : j = i
    · subst hij
      simp only [if_true]
      cases he : es[j]? with
      | none => rw [Array.getElem?_eq_none_iff] at he; omega
      | some e0 => simp [hjl]
    · simp [hij, h2i]
theorem wp_update (K' : KeyKind P kt ek) {t e : TypeId} (ht : P.underlying t = some (.map kt e)) {ops : Array Oper} {rest : List Oper} {o : Oper} {a : Act} {Q : Exit → Act → World → Prop} {w : World} (m x v : Operand) (hg : o.guard = none)
    (ho : o.op = .mapUpdate t m x v) {r : Nat} {l : List (K × Int)} (ha : KeysApart l) (h : MapIs ek w r l) (k : K) (n : Int) (hm : a.eval m = .map (some r)) (hx : a.eval x = ek k) (hv : a.eval v = .int .i64 n)
    (next : ∀ w', MapIs ek w' r (putK l k n) → w.grownBy w' (some r) → wpList P ops Q rest (a.put o.dst undef) w') : wpList P ops Q (o :: rest) a w := by
  refine wpList_plain hg fun K0 hK => ?_
  obtain ⟨w', hrun, r1, r2⟩ := run_update K' ht ha h k n
  unfold Oper.wp
  simp [execOp, ho, hm, hx, hv, hrun, Result.andThen]
  exact hK _ _ (next w' r1 r2)
theorem wp_insert (K' : KeyKind P kt ek) {t e : TypeId} (ht : P.underlying t = some (.map kt e)) {ops : Array Oper} {rest : List Oper} {o : Oper} {a : Act} {Q : Exit → Act → World → Prop} {w : World} (m x v : Operand) (hg : o.guard = none)
    (ho : o.op = .insert t m x v) {r : Nat} {l : List (K × Int)} (ha : KeysApart l) (h : MapIs ek w r l) (k : K) (n : Int) (hm : a.eval m = .map (some r)) (hx : a.eval x = ek k) (hv : a.eval v = .int .i64 n)
    (next : ∀ w', MapIs ek w' r (putK l k n) → w.grownBy w' (some r) → wpList P ops Q rest (a.put o.dst undef) w') : wpList P ops Q (o :: rest) a w := by
  refine wpList_plain hg fun K0 hK => ?_
  obtain ⟨w', hrun, r1, r2⟩ := run_update K' ht ha h k n
  unfold Oper.wp
  simp [execOp, ho, hm, hx, hv, hrun, Result.andThen]
  exact hK _ _ (next w' r1 r2)
end
end Go.Proofs.Ytgchfbfgjanaiaa
