/-
  num.world.give: plain
  num.world.give: when a number is allowed, plain
  numbers that a machine has are allowed; when a number is an int64: plain
  how many terms a number has, and where its exponents lie: no more than a sum of powers of two that comes to it
  a number's terms moved: plain
  plain facts of the numbers of law01's awake
  slices.Grow of nothing, slices.Concat of two, at lists of terms
  num.world.give: its memory
-/
import Derived.Test.YtgchfbfgjanaiaaJ19
import Derived.Test.YtgchfbfgjanaiaaJ08
import Derived.Test.YtgchfbfgjanaiaaJ04
import Derived.Test.YtgchfbfgjanaiaaJ07
import Derived.Lib.AppendZeros
set_option linter.unusedSimpArgs false
set_option linter.unusedVariables false
namespace Go.Proofs.Ytgchfbfgjanaiaa
open Go.RowKit Sr
theorem nodup_sub_nat : ∀ {a b : List Nat}, a.Nodup → (∀ x ∈ a, x ∈ b) → a.length ≤ b.length
  | [], _, _, _ => by simp
  | x :: a, b, hd, hs => by
    obtain ⟨hx, hd'⟩ := List.nodup_cons.1 hd
    have hxb : x ∈ b := hs x (by simp)
    have hlen := List.length_erase_of_mem hxb
    have hpos := List.length_pos_of_mem hxb
    have := nodup_sub_nat (b := b.erase x) hd' fun y hy => (List.mem_erase_of_ne (fun e : y = x => hx (e ▸ hy))).2 (hs y (by simp [hy]))
    simp only [List.length_cons]
    omega
theorem plist_nodup (x : Int) : (plist x).Nodup := (plist_up x).imp fun h => by omega
theorem plist_deep {e : Nat} {x : Int} (h : e ∈ exps x) : (plist (e : Int)).length + 1 ≤ (plist x).length := by
  have := nodup_sub_nat (a := e :: plist (e : Int)) (b := plist x) (List.nodup_cons.2 ⟨fun h => by have := (mem_plist.1 h).lt; simp at this, plist_nodup _⟩) fun f hf => by
    rcases List.mem_cons.1 hf with rfl | hf
    · exact mem_plist.2 (.here h)
    · exact mem_plist.2 (.deep h (mem_plist.1 hf))
  simpa using this
theorem height_plist (n : Nat) : ∀ {x : Int}, x.natAbs < n → height x ≤ (plist x).length := by
  induction n with
  | zero => intro x h; omega
  | succ n ih =>
    intro x h
    rw [height_eq]
    have key : ∀ l : List Nat, (∀ e ∈ l, e ∈ exps x) → l.foldr (fun (e : Nat) m => max (height (e : Int) + 1) m) 0 ≤ (plist x).length := by
      intro l
      induction l with
      | nil => intro _; simp
      | cons e l ihl =>
        intro hl
        have he := hl e (by simp)
        have h1 := ihl fun f hf => hl f (by simp [hf])
        have h2 := exps_lt he
        have h3 := ih (x := (e : Int)) (by simp; omega)
        have h4 := plist_deep he
        simp only [List.foldr_cons]
        omega
    exact key _ fun e he => he
theorem Sr.Cl.parts {vs : List Int} (h : Cl vs) {x : Int} (hc : Cov vs x) {e : Nat} (hp : Part e x) : (e : Int) ∈ vs := by
  induction hp with
  | here he =>
    obtain ⟨t, ht, rfl⟩ := mem_exps.1 he
    exact hc t ht
  | deep he _ ih =>
    obtain ⟨t, ht, rfl⟩ := mem_exps.1 he
    exact ih (h.cov (hc t ht))
theorem Sr.Cl.plist_length {vs : List Int} (h : Cl vs) {x : Int} (hc : Cov vs x) : (plist x).length ≤ vs.length := by
  have h1 : ∀ y ∈ (plist x).map (fun e : Nat => (e : Int)), y ∈ vs := by
    intro y hy
    obtain ⟨e, he, rfl⟩ := List.mem_map.1 hy
    exact h.parts hc (mem_plist.1 he)
  have h2 : ((plist x).map (fun e : Nat => (e : Int))).Nodup := by
    have := plist_up x
    unfold List.Nodup
    rw [List.pairwise_map]
    exact this.imp fun h => by omega
  simpa using nodup_sub_length h2 h1
def hmax (l : List Nat) (f : Nat → Nat) : Nat := l.foldr (fun e m => max (f e + 1) m) 0
theorem hmax_snoc (l : List Nat) (e : Nat) (f : Nat → Nat) : hmax (l ++ [e]) f = max (hmax l f) (f e + 1) := by
  induction l with
  | nil => simp [hmax]
  | cons x l ih => simp only [List.cons_append, hmax, List.foldr_cons] at ih ⊢; omega
structure GP (vs : List Int) (x0 : Int) (ok : Bool) (ps : List Nat) (hl : List (Int × Int)) : Prop where
  nodup : ps.Nodup
  part : ∀ e ∈ ps, Part e x0
  there : ∀ e ∈ ps, (e : Int) ∈ vs
  known : ∀ e : Nat, (e : Int) ∈ vs → (lookK hl (vs.idxOf (e : Int) : Nat)).isSome = decide (e ∈ ps)
  right : ok = true → ∀ e ∈ ps, lookK hl (vs.idxOf (e : Int) : Nat) = some (height (e : Int) : Int)
  closed : ok = true → ∀ e ∈ ps, ∀ f ∈ exps (e : Int), f ∈ ps
  few : ok = true → ∀ e ∈ ps, (form (e : Int)).length ≤ 300
  bad : ok = false → ¬ Allowed x0
  apart : KeysApart hl
theorem GP.nil (vs : List Int) (x0 : Int) : GP vs x0 true [] [] :=
  ⟨by simp, by simp, by simp, by simp [lookK], by simp, by simp, by simp, by simp, List.Pairwise.nil⟩
theorem GP.length {vs : List Int} {x0 : Int} {ok : Bool} {ps : List Nat} {hl : List (Int × Int)} (h : GP vs x0 ok ps hl) : ps.length ≤ (plist x0).length :=
  nodup_sub_nat h.nodup fun e he => mem_plist.2 (h.part e he)
theorem GP.turn {vs : List Int} {x0 : Int} {ps : List Nat} {hl : List (Int × Int)} (h : GP vs x0 true ps hl) {ok : Bool} (hb : ok = false → ¬ Allowed x0) : GP vs x0 ok ps hl :=
  ⟨h.nodup, h.part, h.there, h.known, fun _ => h.right rfl, fun _ => h.closed rfl, fun _ => h.few rfl, hb, h.apart⟩
theorem GP.push {vs : List Int} {x0 : Int} {ok : Bool} {ps : List Nat} {hl : List (Int × Int)} (h : GP vs x0 ok ps hl) {e : Nat} (hv : (e : Int) ∈ vs) (hp : Part e x0) (hn : e ∉ ps) {k : Int} (hk : ok = true → k = height (e : Int))
    (hc : ok = true → ∀ f ∈ exps (e : Int), f ∈ ps) (hf : ok = true → (form (e : Int)).length ≤ 300) : GP vs x0 ok (ps ++ [e]) (putK hl (vs.idxOf (e : Int) : Nat) k) where
  nodup := by
    rw [List.nodup_append]
    refine ⟨h.nodup, by simp, ?_⟩
    intro a ha b hb
    simp at hb
    subst hb
    intro e
    exact hn (e ▸ ha)
  part := fun f hf => by
    rcases List.mem_append.1 hf with hf | hf
    · exact h.part f hf
    · simp at hf; subst hf; exact hp
  there := fun f hf => by
    rcases List.mem_append.1 hf with hf | hf
    · exact h.there f hf
    · simp at hf; subst hf; exact hv
  known := fun f hf => by
    rw [lookK_putK]
    by_cases hfe : f = e
    · subst hfe; simp
    · have : ¬ ((vs.idxOf (f : Int) : Nat) : Int) = (vs.idxOf (e : Int) : Nat) := fun q => hfe (by have := idxOf_inj hf (Int.ofNat_inj.1 q); omega)
      rw [if_neg this, h.known f hf]
      simp [hfe]
  right := fun ho f hf => by
    rw [lookK_putK]
    rcases List.mem_append.1 hf with hf | hf
    · have hfe : f ≠ e := fun q => hn (q ▸ hf)
      have hfv := h.there f hf
      have : ¬ ((vs.idxOf (f : Int) : Nat) : Int) = (vs.idxOf (e : Int) : Nat) := fun q => hfe (by have := idxOf_inj hfv (Int.ofNat_inj.1 q); omega)
      rw [if_neg this]
      exact h.right ho f hf
    · simp at hf; subst hf; simp [hk ho]
  closed := fun ho f hf g hg => by
    rcases List.mem_append.1 hf with hf | hf
    · exact List.mem_append_left _ (h.closed ho f hf g hg)
    · simp at hf; subst hf; exact List.mem_append_left _ (hc ho g hg)
  few := fun ho f hf' => by
    rcases List.mem_append.1 hf' with hf' | hf'
    · exact h.few ho f hf'
    · simp at hf'; subst hf'; exact hf ho
  bad := h.bad
  apart := h.apart.put _ _
end Go.Proofs.Ytgchfbfgjanaiaa

namespace Go.Proofs.Ytgchfbfgjanaiaa
open Go.RowKit Sr
theorem GP.inside {vs : List Int} {x0 : Int} {ps : List Nat} {hl : List (Int × Int)} (h : GP vs x0 true ps hl) {y : Int} (hy : ∀ e ∈ exps y, e ∈ ps) {f : Nat} (hf : Part f y) : f ∈ ps := by
  induction hf with
  | here he => exact hy _ he
  | deep he _ ih => exact ih fun g hg => h.closed rfl _ (hy _ he) g hg
theorem GP.mem {vs : List Int} {x0 : Int} {ps : List Nat} {hl : List (Int × Int)} (h : GP vs x0 true ps hl) (hx : ∀ e ∈ exps x0, e ∈ ps) (e : Nat) : e ∈ ps ↔ Part e x0 :=
  ⟨h.part e, h.inside hx⟩
theorem GP.count {vs : List Int} {x0 : Int} {ps : List Nat} {hl : List (Int × Int)} (h : GP vs x0 true ps hl) (hx : ∀ e ∈ exps x0, e ∈ ps) : ps.length = (plist x0).length :=
  Nat.le_antisymm h.length (nodup_sub_nat (plist_nodup x0) fun e he => (h.mem hx e).2 (mem_plist.1 he))
theorem GP.allowed {vs : List Int} {x0 : Int} {ps : List Nat} {hl : List (Int × Int)} (h : GP vs x0 true ps hl) (hx : ∀ e ∈ exps x0, e ∈ ps) (hlen : (form x0).length ≤ 300) : Allowed x0 ↔ ps.length + 1 ≤ 2000 ∧ height x0 ≤ 100 := by
  have hc := h.count hx
  constructor
  · rintro ⟨_, _, h3, h4⟩
    unfold weight at h3
    exact ⟨by omega, h4⟩
  · rintro ⟨h1, h2⟩
    exact ⟨hlen, fun e he => h.few rfl e ((h.mem hx e).2 he), by unfold weight; omega, h2⟩
theorem GP.test {vs : List Int} {x0 : Int} {ok : Bool} {ps : List Nat} {hl : List (Int × Int)} {hh : Int} (h : GP vs x0 ok ps hl) (hx : ok = true → (∀ e ∈ exps x0, e ∈ ps) ∧ hh = (height x0 : Int)) (hlen : (form x0).length ≤ 300) :
    Allowed x0 ↔ ok = true ∧ ps.length + 1 ≤ 2000 ∧ hh ≤ 100 := by
  cases ok with
  | false => exact ⟨fun hA => absurd hA (h.bad rfl), fun hA => by simp at hA⟩
  | true =>
    obtain ⟨h1, h2⟩ := hx rfl
    rw [h.allowed h1 hlen, h2]
    simp only [true_and]
    omega
end Go.Proofs.Ytgchfbfgjanaiaa

namespace Go.Proofs.Ytgchfbfgjanaiaa
open Go.RowKit Sr
theorem under_length : ∀ (l : List T) (n : Nat), Under n l → l.length ≤ n
  | [], _, _ => Nat.zero_le _
  | t :: l, n, h => by
    obtain ⟨h1, h2, h3⟩ := h
    have := under_length l _ h2
    simp only [List.length_cons]
    by_cases hl : l = []
    · subst hl; simp; omega
    · have := h3 hl; omega
theorem Sr.Under.cut {n m : Nat} {l : List T} (h : Under n l) (hm : ∀ t ∈ l, t.2 < m) : Under m l := by
  cases l with
  | nil => trivial
  | cons t l => exact ⟨hm t (by simp), h.2⟩
theorem exps_pow {x : Int} {e : Nat} (h : e ∈ exps x) : (2 : Int) ^ (e + 1) + 1 ≤ 3 * (x.natAbs : Int) := by
  obtain ⟨t, ht, rfl⟩ := mem_exps.1 h
  obtain ⟨n, hu⟩ := form_form x
  have hv := val_form x
  cases hf : form x with
  | nil => rw [hf] at ht; simp at ht
  | cons s l =>
    rw [hf] at ht hu hv
    have hts : t.2 ≤ s.2 := by
      have := under_mem (s :: l) (s.2 + 1) ⟨by omega, hu.2⟩ t ht
      omega
    have hp := val_pos hu
    have hm := pow_mono (show t.2 + 1 ≤ s.2 + 1 by omega)
    rw [hv] at hp
    cases hs : s.1
    · have := hp.1 hs; omega
    · have := hp.2 hs; omega
theorem exps_small {x : Int} (hx : x.natAbs ≤ 2 ^ 63) {e : Nat} (h : e ∈ exps x) : e ≤ 63 := by
  have h1 := exps_pow h
  by_cases h2 : e ≤ 63
  · exact h2
  · have h3 := pow_mono (show 65 ≤ e + 1 by omega)
    have h4 : ((2 : Int) ^ 65) = 36893488147419103232 := by decide
    omega
theorem form_length_le {x : Int} {n : Nat} (h : ∀ e ∈ exps x, e < n) : (form x).length ≤ n := by
  obtain ⟨m, hu⟩ := form_form x
  exact under_length _ _ (hu.cut fun t ht => h t.2 (mem_exps.2 ⟨t, ht, rfl⟩))
theorem form_length_nat (e : Nat) : (form (e : Int)).length ≤ e := form_length_le fun f hf => by have := exps_lt hf; simpa using this
theorem part_small {x : Int} (hx : x.natAbs ≤ 2 ^ 63) {e : Nat} (h : Part e x) : e ≤ 63 := by
  rcases part_iff.1 h with ⟨f, hf, rfl | h⟩
  · exact exps_small hx hf
  · have := h.lt; have := exps_small hx hf; simp at *; omega
theorem plist_small {x : Int} (hx : x.natAbs ≤ 2 ^ 63) : (plist x).length ≤ 64 := by
  have := nodup_sub_nat (a := plist x) (b := List.range 64) (plist_nodup x) fun e he => by
    have := part_small hx (mem_plist.1 he)
    rw [List.mem_range]; omega
  simpa using this
theorem allowed_small {x : Int} (hx : x.natAbs ≤ 2 ^ 63) : Allowed x := by
  have h1 := plist_small hx
  refine ⟨?_, fun e he => ?_, ?_, ?_⟩
  · have := form_length_le (n := 64) fun e he => by have := exps_small hx he; omega
    omega
  · have := form_length_nat e
    have := part_small hx he
    omega
  · unfold weight; omega
  · have := height_plist _ (Nat.lt_succ_self x.natAbs)
    omega
def few : List Int := (List.range 71).map fun n : Nat => (n : Int)
theorem few_mem (k : Nat) (h : k ≤ 70) : (k : Int) ∈ few := List.mem_map.2 ⟨k, List.mem_range.2 (by omega), rfl⟩
theorem few_length : few.length ≤ roomW := by simp [few, roomW]
end Go.Proofs.Ytgchfbfgjanaiaa

namespace Go.Proofs.Ytgchfbfgjanaiaa
open Go.RowKit Sr
noncomputable def wl (x : Int) : Nat := (form x).length
theorem wl_two (x : Int) : wl (2 * x) = wl x := by
  unfold wl
  rw [show (2 : Int) * x = 2 ^ 1 * x by simp, form_up]
  simp [up]
theorem wl_odd (z : Int) (m : Bool) : wl (4 * z + Sr.one m) = wl z + 1 := by
  unfold wl
  rw [form_odd]
  simp [up]
theorem wl_one (z : Int) : wl (4 * z + 1) = wl z + 1 := wl_odd z false
theorem wl_mone (z : Int) : wl (4 * z - 1) = wl z + 1 := wl_odd z true
theorem wl_neg (x : Int) : wl (-x) = wl x := by unfold wl; rw [form_neg]; simp [neg]
theorem wl_zero : wl 0 = 0 := by simp [wl, form_zero]
theorem wl_succ (x : Int) : wl (x + 1) ≤ wl x + 1 := by
  obtain ⟨n, hn⟩ : ∃ n, n = x.natAbs := ⟨_, rfl⟩
  induction n using Nat.strongRecOn generalizing x with
  | _ n ih =>
    subst hn
    have h4 : x % 4 = 0 ∨ x % 4 = 1 ∨ x % 4 = 2 ∨ x % 4 = 3 := by omega
    rcases h4 with h4 | h4 | h4 | h4
    · obtain ⟨z, rfl⟩ : ∃ z, x = 4 * z := ⟨x / 4, by omega⟩
      rw [wl_one, show 4 * z = 2 * (2 * z) by omega, wl_two, wl_two]
      omega
    · obtain ⟨z, rfl⟩ : ∃ z, x = 4 * z + 1 := ⟨x / 4, by omega⟩
      rw [show 4 * z + 1 + 1 = 2 * (2 * z + 1) by omega, wl_two, wl_one]
      by_cases hz : z = 0
      · subst hz
        have := wl_one 0
        rw [show (4 : Int) * 0 + 1 = 2 * 0 + 1 by omega] at this
        rw [this]
        omega
      · have := ih (2 * z).natAbs (by omega) (2 * z) rfl
        rw [wl_two] at this
        omega
    · obtain ⟨z, rfl⟩ : ∃ z, x = 4 * z + 2 := ⟨x / 4, by omega⟩
      rw [show 4 * z + 2 + 1 = 4 * (z + 1) - 1 by omega, wl_mone, show 4 * z + 2 = 2 * (2 * z + 1) by omega, wl_two]
      have h2 : z % 2 = 0 ∨ z % 2 = 1 := by omega
      rcases h2 with h2 | h2
      · obtain ⟨u, rfl⟩ : ∃ u, z = 2 * u := ⟨z / 2, by omega⟩
        have := ih (2 * u).natAbs (by omega) (2 * u) rfl
        rw [show 2 * (2 * u) + 1 = 4 * u + 1 by omega, wl_one]
        rw [wl_two] at this
        omega
      · obtain ⟨u, rfl⟩ : ∃ u, z = 2 * u - 1 := ⟨(z + 1) / 2, by omega⟩
        rw [show 2 * (2 * u - 1) + 1 = 4 * u - 1 by omega, wl_mone, show 2 * u - 1 + 1 = 2 * u by omega, wl_two]
        omega
    · obtain ⟨z, rfl⟩ : ∃ z, x = 4 * z - 1 := ⟨(x + 1) / 4, by omega⟩
      rw [show 4 * z - 1 + 1 = 2 * (2 * z) by omega, wl_two, wl_two, wl_mone]
      omega
theorem wl_pred (x : Int) : wl (x - 1) ≤ wl x + 1 := by
  have := wl_succ (-x)
  rw [show -x + 1 = -(x - 1) by omega, wl_neg, wl_neg] at this
  exact this
theorem wl_pow (k : Nat) : ∀ x : Int, wl (x + 2 ^ k) ≤ wl x + 1 := by
  induction k using Nat.strongRecOn with
  | _ k ih =>
    intro x
    match k, ih with
    | 0, _ => simpa using wl_succ x
    | 1, _ =>
      have h4 : x % 2 = 0 ∨ x % 4 = 1 ∨ x % 4 = 3 := by omega
      rw [show (2 : Int) ^ 1 = 2 by decide]
      rcases h4 with h4 | h4 | h4
      · obtain ⟨z, rfl⟩ : ∃ z, x = 2 * z := ⟨x / 2, by omega⟩
        rw [show 2 * z + 2 = 2 * (z + 1) by omega, wl_two, wl_two]
        exact wl_succ z
      · obtain ⟨z, rfl⟩ : ∃ z, x = 4 * z + 1 := ⟨x / 4, by omega⟩
        rw [show 4 * z + 1 + 2 = 4 * (z + 1) - 1 by omega, wl_mone, wl_one]
        have := wl_succ z
        omega
      · obtain ⟨z, rfl⟩ : ∃ z, x = 4 * z - 1 := ⟨(x + 1) / 4, by omega⟩
        rw [show 4 * z - 1 + 2 = 4 * z + 1 by omega, wl_mone, wl_one]
        omega
    | k + 2, ih =>
      have h4 : x % 2 = 0 ∨ x % 4 = 1 ∨ x % 4 = 3 := by omega
      rw [pow_succ', pow_succ']
      rcases h4 with h4 | h4 | h4
      · obtain ⟨z, rfl⟩ : ∃ z, x = 2 * z := ⟨x / 2, by omega⟩
        have := ih (k + 1) (by omega) z
        rw [pow_succ'] at this
        rw [show 2 * z + 2 * (2 * 2 ^ k) = 2 * (z + 2 * 2 ^ k) by omega, wl_two, wl_two]
        exact this
      · obtain ⟨z, rfl⟩ : ∃ z, x = 4 * z + 1 := ⟨x / 4, by omega⟩
        have := ih k (by omega) z
        rw [show 4 * z + 1 + 2 * (2 * 2 ^ k) = 4 * (z + 2 ^ k) + 1 by omega, wl_one, wl_one]
        omega
      · obtain ⟨z, rfl⟩ : ∃ z, x = 4 * z - 1 := ⟨(x + 1) / 4, by omega⟩
        have := ih k (by omega) z
        rw [show 4 * z - 1 + 2 * (2 * 2 ^ k) = 4 * (z + 2 ^ k) - 1 by omega, wl_mone, wl_mone]
        omega
theorem wl_tv (t : T) (x : Int) : wl (tv t + x) ≤ wl x + 1 := by
  obtain ⟨m, k⟩ := t
  cases m
  · have := wl_pow k x
    rw [Int.add_comm] at this
    exact this
  · have := wl_pow k (-x)
    rw [show -x + 2 ^ k = -(-(2 ^ k) + x) by omega, wl_neg, wl_neg] at this
    exact this
theorem wl_val : ∀ l : List T, wl (val l) ≤ l.length
  | [] => by simp [val, wl_zero]
  | t :: l => by
    have h1 := wl_tv t (val l)
    have h2 := wl_val l
    simp only [val, List.length_cons]
    omega
theorem wl_add (x y : Int) : wl (x + y) ≤ wl x + wl y := by
  have := wl_val (form x ++ form y)
  rw [val_append, val_form, val_form, List.length_append] at this
  exact this
theorem exps_nil_of_one : exps 1 = [0] := by simpa [exps_zero] using exps_one 0
theorem exps_next (x : Int) : ∀ e ∈ exps (x + 1), e ∈ exps x ∨ e ≤ 2 * wl x + 1 := by
  obtain ⟨n, hn⟩ : ∃ n, n = x.natAbs := ⟨_, rfl⟩
  induction n using Nat.strongRecOn generalizing x with
  | _ n ih =>
    subst hn
    intro e he
    have h4 : x % 4 = 0 ∨ x % 4 = 1 ∨ x % 4 = 2 ∨ x % 4 = 3 := by omega
    rcases h4 with h4 | h4 | h4 | h4
    · obtain ⟨z, rfl⟩ : ∃ z, x = 4 * z := ⟨x / 4, by omega⟩
      rw [exps_one] at he
      rw [exps_four]
      simp only [List.mem_append, List.mem_singleton] at he
      rcases he with he | he
      · exact .inl he
      · exact .inr (by omega)
    · obtain ⟨z, rfl⟩ : ∃ z, x = 4 * z + 1 := ⟨x / 4, by omega⟩
      rw [show 4 * z + 1 + 1 = 2 * (2 * z + 1) by omega, exps_two] at he
      rw [exps_one, wl_one]
      obtain ⟨g, hg, rfl⟩ := List.mem_map.1 he
      by_cases hz : z = 0
      · subst hz
        rw [show (2 : Int) * 0 + 1 = 1 by omega, exps_nil_of_one] at hg
        simp at hg
        subst hg
        exact .inr (by omega)
      · have := ih (2 * z).natAbs (by omega) (2 * z) rfl g hg
        rw [exps_two, wl_two] at this
        rcases this with h | h
        · obtain ⟨a, ha, rfl⟩ := List.mem_map.1 h
          exact .inl (by simp; exact ha)
        · exact .inr (by omega)
    · obtain ⟨z, rfl⟩ : ∃ z, x = 4 * z + 2 := ⟨x / 4, by omega⟩
      rw [show 4 * z + 2 + 1 = 4 * (z + 1) - 1 by omega, exps_mone] at he
      rw [show 4 * z + 2 = 2 * (2 * z + 1) by omega, exps_two, wl_two]
      simp only [List.mem_append, List.mem_singleton] at he
      rcases he with he | he
      · obtain ⟨g, hg, rfl⟩ := List.mem_map.1 he
        have h2 : z % 2 = 0 ∨ z % 2 = 1 := by omega
        rcases h2 with h2 | h2
        · obtain ⟨u, rfl⟩ : ∃ u, z = 2 * u := ⟨z / 2, by omega⟩
          rw [show 2 * (2 * u) + 1 = 4 * u + 1 by omega, exps_one, wl_one]
          have := ih (2 * u).natAbs (by omega) (2 * u) rfl g hg
          rw [exps_two, wl_two] at this
          rcases this with h | h
          · obtain ⟨a, ha, rfl⟩ := List.mem_map.1 h
            exact .inl (by simp; exact ha)
          · exact .inr (by omega)
        · obtain ⟨u, rfl⟩ : ∃ u, z = 2 * u - 1 := ⟨(z + 1) / 2, by omega⟩
          rw [show 2 * (2 * u - 1) + 1 = 4 * u - 1 by omega, exps_mone]
          rw [show 2 * u - 1 + 1 = 2 * u by omega, exps_two] at hg
          obtain ⟨a, ha, rfl⟩ := List.mem_map.1 hg
          exact .inl (by simp; exact ha)
      · exact .inr (by omega)
    · obtain ⟨z, rfl⟩ : ∃ z, x = 4 * z - 1 := ⟨(x + 1) / 4, by omega⟩
      rw [show 4 * z - 1 + 1 = 4 * z by omega, exps_four] at he
      rw [exps_mone]
      exact .inl (by simp only [List.mem_append]; exact .inl he)
theorem wl_addn (x : Int) (k : Nat) : wl (x + k) ≤ wl x + k := by
  induction k with
  | zero => simp
  | succ k ih =>
    have := wl_succ (x + k)
    rw [show x + ((k + 1 : Nat) : Int) = x + k + 1 by omega]
    omega
theorem exps_addn (x : Int) (k : Nat) : ∀ e ∈ exps (x + k), e ∈ exps x ∨ e ≤ 2 * (wl x + k) + 1 := by
  induction k with
  | zero => intro e he; exact .inl (by simpa using he)
  | succ k ih =>
    intro e he
    rw [show x + ((k + 1 : Nat) : Int) = x + k + 1 by omega] at he
    have h1 := wl_addn x k
    rcases exps_next (x + k) e he with h | h
    · rcases ih e h with h | h
      · exact .inl h
      · exact .inr (by omega)
    · exact .inr (by omega)
theorem under_append {e : Nat} {b : List T} (hb : Under e b) : ∀ (a : List T) (n : Nat), Under n a → (∀ t ∈ a, e + 1 ≤ t.2) → e ≤ n → Under n (a ++ b)
  | [], n, _, _, hn => hb.mono hn
  | t :: a, n, h, ha, _ => by
    obtain ⟨h1, h2, h3⟩ := h
    have ht := ha t (by simp)
    exact ⟨h1, under_append hb a (t.2 - 1) h2 (fun s hs => ha s (by simp [hs])) (by omega), fun _ => by omega⟩
theorem exps_gap {m r : Int} {e : Nat} (hr : 8 * (r.natAbs : Int) ≤ 2 ^ e) : e ∉ exps (2 ^ (e + 1) * m + r) := by
  obtain ⟨n, hu⟩ := form_form m
  have hu1 := under_up (e + 1) _ _ hu
  have hlow : ∀ f ∈ exps r, f < e := fun f hf => by
    have h1 := exps_pow hf
    by_cases h2 : f < e
    · exact h2
    · have h3 := pow_mono (show e + 1 ≤ f + 1 by omega)
      rw [pow_succ'] at h3
      omega
  have hb : Under e (form r) := by
    obtain ⟨k, hk⟩ := form_form r
    exact hk.cut fun t ht => hlow t.2 (mem_exps.2 ⟨t, ht, rfl⟩)
  have hge : ∀ t ∈ up (e + 1) (form m), e + 1 ≤ t.2 := fun t ht => by
    unfold up at ht
    obtain ⟨s, _, rfl⟩ := List.mem_map.1 ht
    simp
  have hf : form (2 ^ (e + 1) * m + r) = up (e + 1) (form m) ++ form r :=
    form_of ⟨_, under_append hb _ _ hu1 hge (by omega)⟩ (by rw [val_append, val_up, val_form, val_form])
  intro he
  obtain ⟨t, ht, h⟩ := mem_exps.1 he
  rw [hf] at ht
  rcases List.mem_append.1 ht with ht | ht
  · have := hge t ht; omega
  · have := hlow t.2 (mem_exps.2 ⟨t, ht, rfl⟩); omega
theorem val_split (e : Nat) : ∀ l : List T, (∀ t ∈ l, e < t.2 ∨ t.2 + 17 ≤ e) → ∃ m r : Int, val l = 2 ^ (e + 1) * m + r ∧ (r.natAbs : Int) * 131072 ≤ l.length * 2 ^ e
  | [], _ => ⟨0, 0, by simp [val], by simp⟩
  | t :: l, h => by
    obtain ⟨m, r, h1, h2⟩ := val_split e l fun s hs => h s (by simp [hs])
    have hp := two_pow_pos e
    have hl : ((t :: l).length : Int) * 2 ^ e = l.length * 2 ^ e + 2 ^ e := by
      rw [List.length_cons, Int.natCast_add, Int.add_mul]; simp
    rw [hl]
    rcases h t (by simp) with ht | ht
    · obtain ⟨k, hk⟩ : ∃ k, t.2 = (e + 1) + k := ⟨t.2 - (e + 1), by omega⟩
      have : tv t = 2 ^ (e + 1) * (Sr.one t.1 * 2 ^ k) := by
        unfold tv Sr.one
        rw [hk, Int.pow_add]
        split
        · rw [Int.neg_one_mul, Int.mul_neg]
        · rw [Int.one_mul]
      refine ⟨Sr.one t.1 * 2 ^ k + m, r, ?_, by omega⟩
      simp only [val]
      rw [this, h1, Int.mul_add]; omega
    · refine ⟨m, tv t + r, ?_, ?_⟩
      · simp only [val]; rw [h1]; omega
      · have h3 := pow_mono ht
        rw [Int.pow_add] at h3
        have h4 : (2 : Int) ^ 17 = 131072 := by decide
        rw [h4] at h3
        have h5 := two_pow_pos t.2
        have h6 : ((tv t + r).natAbs : Int) ≤ 2 ^ t.2 + r.natAbs := by
          unfold tv
          split <;> omega
        omega
theorem exps_val {l : List T} (hl : l.length ≤ 16384) {e : Nat} (he : e ∈ exps (val l)) : ∃ t ∈ l, ∃ k, k ≤ 16 ∧ e = t.2 + k := by
  apply Classical.byContradiction
  intro hno
  obtain ⟨m, r, h1, h2⟩ := val_split e l fun t ht => by
    apply Classical.byContradiction
    intro h
    exact hno ⟨t, ht, e - t.2, by omega, by omega⟩
  rw [h1] at he
  refine exps_gap ?_ he
  have hp := two_pow_pos e
  have h3 : (l.length : Int) * 2 ^ e ≤ 16384 * 2 ^ e := Int.mul_le_mul_of_nonneg_right (by omega) (Int.le_of_lt hp)
  omega
end Go.Proofs.Ytgchfbfgjanaiaa

namespace Go.Proofs.Ytgchfbfgjanaiaa
open Go.RowKit Sr
def Whole (x y : Int) : Prop := ∀ t ∈ form x, 0 ≤ (t.2 : Int) + y
noncomputable def shlL (x y : Int) : List T := (form x).map fun t => (t.1, ((t.2 : Int) + y).toNat)
noncomputable def shl (x y : Int) : Int := val (shlL x y)
theorem under_shl (y : Int) : ∀ (l : List T) (n : Nat), Under n l → (∀ t ∈ l, 0 ≤ (t.2 : Int) + y) → Under ((n : Int) + y).toNat (l.map fun t => (t.1, ((t.2 : Int) + y).toNat))
  | [], _, _, _ => trivial
  | t :: l, n, h, hw => by
    obtain ⟨h1, h2, h3⟩ := h
    have ht := hw t (by simp)
    have ih := under_shl y l (t.2 - 1) h2 fun s hs => hw s (by simp [hs])
    refine ⟨by simp only; omega, ?_, fun hl => ?_⟩
    · simp only
      by_cases hl : l = []
      · subst hl; trivial
      · have := h3 hl
        refine ih.mono ?_
        omega
    · have hl' : l ≠ [] := by
        intro e
        rw [e] at hl
        simp at hl
      cases l with
      | nil => exact absurd rfl hl'
      | cons s l =>
        have hs := hw s (by simp)
        have := h2.1
        simp only
        omega
theorem form_shl {x y : Int} (h : Whole x y) : form (shl x y) = shlL x y := by
  obtain ⟨n, hu⟩ := form_form x
  exact form_of ⟨_, under_shl y _ n hu h⟩ rfl
theorem whole_nat (x : Int) (n : Nat) : Whole x n := fun t _ => by omega
theorem shl_nat (x : Int) (n : Nat) : shl x n = 2 ^ n * x := by
  have h : shlL x n = up n (form x) := by
    unfold shlL up
    apply List.map_congr_left
    intro t _
    rw [show ((t.2 : Int) + (n : Int)).toNat = t.2 + n by omega]
  unfold shl
  rw [h, val_up, val_form]
theorem shl_back {x : Int} {n : Nat} (h : Whole x (-(n : Int))) : 2 ^ n * shl x (-(n : Int)) = x := by
  have e : up n (shlL x (-(n : Int))) = form x := by
    unfold shlL up
    rw [List.map_map]
    conv => rhs; rw [← List.map_id (form x)]
    apply List.map_congr_left
    intro t ht
    have := h t ht
    simp only [Function.comp_def, id_eq]
    rw [show ((t.2 : Int) + -(n : Int)).toNat + n = t.2 by omega]
  have := congrArg val e
  rw [val_up, val_form] at this
  exact this
theorem whole_iff {x : Int} {n : Nat} : Whole x (-(n : Int)) ↔ ∃ z, x = 2 ^ n * z := by
  constructor
  · intro h
    exact ⟨_, (shl_back h).symm⟩
  · rintro ⟨z, rfl⟩ t ht
    rw [form_up] at ht
    unfold up at ht
    obtain ⟨s, _, rfl⟩ := List.mem_map.1 ht
    simp only
    omega
theorem shl_div {z : Int} {n : Nat} : shl (2 ^ n * z) (-(n : Int)) = z := by
  have := shl_back (whole_iff.2 ⟨z, rfl⟩ : Whole (2 ^ n * z) (-(n : Int)))
  have hp := two_pow_pos n
  exact Int.eq_of_mul_eq_mul_left (by omega) this
theorem wl_shl {x y : Int} (h : Whole x y) : wl (shl x y) = wl x := by
  unfold wl
  rw [form_shl h]
  simp [shlL]
theorem exps_shl {x y : Int} (h : Whole x y) : exps (shl x y) = (exps x).map fun e : Nat => ((e : Int) + y).toNat := by
  unfold exps
  rw [form_shl h]
  simp [shlL, Function.comp_def]
end Go.Proofs.Ytgchfbfgjanaiaa

namespace Go.Proofs.Ytgchfbfgjanaiaa
open Go.RowKit Sr
theorem form_1 : form 1 = [(false, 0)] := form_of ⟨1, by simp [Under]⟩ (by simp [val, tv])
theorem form_2 : form 2 = [(false, 1)] := form_of ⟨2, by simp [Under]⟩ (by simp [val, tv])
theorem form_3 : form 3 = [(false, 2), (true, 0)] := form_of ⟨3, by simp [Under]⟩ (by simp [val, tv])
theorem form_7 : form 7 = [(false, 3), (true, 0)] := form_of ⟨4, by simp [Under]⟩ (by simp [val, tv])
theorem exps_1 : exps 1 = [0] := by simp [exps, form_1]
theorem exps_2 : exps 2 = [1] := by simp [exps, form_2]
theorem exps_3 : exps 3 = [2, 0] := by simp [exps, form_3]
theorem exps_7 : exps 7 = [3, 0] := by simp [exps, form_7]
theorem part_1 {f : Nat} : Part f 1 ↔ f = 0 := by rw [part_iff, exps_1]; simp [not_part_zero]
theorem part_2 {f : Nat} : Part f 2 ↔ f = 1 ∨ f = 0 := by rw [part_iff, exps_2]; simp [part_1]
theorem part_3 {f : Nat} : Part f 3 ↔ f = 2 ∨ f = 1 ∨ f = 0 := by rw [part_iff, exps_3]; simp [part_2, not_part_zero]; omega
theorem part_7 {f : Nat} : Part f 7 ↔ f = 3 ∨ f = 2 ∨ f = 1 ∨ f = 0 := by rw [part_iff, exps_7]; simp [part_3, not_part_zero]; omega
theorem plist_7 : plist 7 = [0, 1, 2, 3] := plist_of (by decide) fun e => by rw [part_7]; simp; omega
theorem weight_7 : weight 7 = 5 := by rw [weight, plist_7]; rfl
theorem height_0 : height 0 = 0 := by rw [height_eq, exps_zero]; rfl
theorem height_1 : height 1 = 1 := by rw [height_eq, exps_1]; simp [height_0]
theorem height_2 : height 2 = 2 := by rw [height_eq, exps_2]; simp [height_1]
theorem height_3 : height 3 = 3 := by rw [height_eq, exps_3]; simp [height_2, height_0]
theorem height_7 : height 7 = 4 := by rw [height_eq, exps_7]; simp [height_3, height_0]
theorem bytes_7 : (bytesN 7).length = 30 := by
  have f : ∀ z : Int, (formN (enc (pvs 7) z)).length = 2 + 3 * (form z).length := by intro z; simp [formN, termsN_length, enc, twoN]; omega
  unfold bytesN
  rw [plist_7]
  simp [List.flatMap_cons, f, form_zero, form_1, form_2, form_3, form_7, twoN]
theorem form_pow2 (n : Nat) : form (2 ^ n) = [(false, n)] := form_of ⟨n + 1, by simp [Under]⟩ (by simp [val, tv])
theorem form_pow2s {n : Nat} (h : 2 ≤ n) : form (2 ^ n + 1) = [(false, n), (false, 0)] := form_of ⟨n + 1, by simp [Under]; omega⟩ (by simp [val, tv])
theorem weight_sub {x : Int} {L : List Nat} (h : ∀ e, Part e x → e ∈ L) : weight x ≤ L.length + 1 := by
  have := nodup_sub_nat (a := plist x) (b := L) (plist_nodup x) fun e he => h e (mem_plist.1 he)
  unfold weight
  omega
theorem allowed_pow2 {n : Nat} (h : Allowed (n : Int)) (hw : weight (n : Int) + 1 ≤ 2000) (hh : height (n : Int) + 1 ≤ 100) :
    Allowed (2 ^ n) ∧ weight (2 ^ n) ≤ weight (n : Int) + 1 ∧ height (2 ^ n) = height (n : Int) + 1 := by
  have he : exps (2 ^ n) = [n] := by simp [exps, form_pow2]
  have hp : ∀ e, Part e (2 ^ n) → e = n ∨ Part e (n : Int) := fun e h => by rw [part_iff, he] at h; simpa using h
  have hwt : weight (2 ^ n) ≤ weight (n : Int) + 1 := by
    have := weight_sub (x := 2 ^ n) (L := n :: plist (n : Int)) fun e h => by
      rcases hp e h with rfl | h
      · simp
      · simp [mem_plist.2 h]
    simp only [List.length_cons] at this
    unfold weight at this ⊢
    omega
  have hht : height (2 ^ n) = height (n : Int) + 1 := by rw [height_eq, he]; simp
  refine ⟨⟨by rw [form_pow2]; simp, fun e h' => ?_, by omega, by omega⟩, hwt, hht⟩
  rcases hp e h' with rfl | h'
  · exact h.1
  · exact h.2.1 e h'
theorem allowed_pow2s {n : Nat} (h2 : 2 ≤ n) (h : Allowed (n : Int)) (hw : weight (n : Int) + 2 ≤ 2000) (hh : height (n : Int) + 1 ≤ 100) : Allowed (2 ^ n + 1) := by
  have he : exps (2 ^ n + 1) = [n, 0] := by simp [exps, form_pow2s h2]
  have hp : ∀ e, Part e (2 ^ n + 1) → e = n ∨ Part e (n : Int) ∨ e = 0 := fun e h => by
    rw [part_iff, he] at h
    simp [not_part_zero] at h
    rcases h with (h | h) | h
    · exact .inl h
    · exact .inr (.inl h)
    · exact .inr (.inr h)
  have hwt : weight (2 ^ n + 1) ≤ weight (n : Int) + 2 := by
    have := weight_sub (x := 2 ^ n + 1) (L := n :: 0 :: plist (n : Int)) fun e h => by
      rcases hp e h with rfl | h | rfl
      · simp
      · simp [mem_plist.2 h]
      · simp
    simp only [List.length_cons] at this
    unfold weight at this ⊢
    omega
  have hht : height (2 ^ n + 1) = height (n : Int) + 1 := by rw [height_eq, he]; simp [height_0]
  refine ⟨by rw [form_pow2s h2]; simp, fun e h' => ?_, by omega, by omega⟩
  rcases hp e h' with rfl | h' | rfl
  · exact h.1
  · exact h.2.1 e h'
  · simp [form_zero]
theorem towers : ∃ n : Nat, (n : Int) = 2 ^ 100 ∧ 2 ≤ n ∧ Allowed (n : Int) ∧ Allowed (2 ^ n) ∧ Allowed (2 ^ n + 1) ∧ (n : Int) < 2 ^ n := by
  have h0 : Allowed ((100 : Nat) : Int) := allowed_small (by decide)
  have hw0 : weight ((100 : Nat) : Int) ≤ 65 := by have := plist_small (x := ((100 : Nat) : Int)) (by decide); unfold weight; omega
  have hh0 : height ((100 : Nat) : Int) ≤ 64 := by
    have := plist_small (x := ((100 : Nat) : Int)) (by decide)
    have := height_plist _ (Nat.lt_succ_self ((100 : Nat) : Int).natAbs)
    omega
  obtain ⟨a1, a2, a3⟩ := allowed_pow2 h0 (by omega) (by omega)
  obtain ⟨n, hn⟩ : ∃ n : Nat, (n : Int) = 2 ^ 100 := ⟨((2 : Int) ^ 100).toNat, Int.toNat_of_nonneg (Int.pow_nonneg (by decide))⟩
  have h2 : 2 ≤ n := by
    have h3 : (2 : Int) ≤ 2 ^ 100 := by decide
    omega
  rw [← hn] at a1 a2 a3
  obtain ⟨b1, -, -⟩ := allowed_pow2 a1 (by omega) (by omega)
  exact ⟨n, hn, h2, a1, b1, allowed_pow2s h2 a1 (by omega) (by omega), by have := lt_two_pow n; omega⟩
end Go.Proofs.Ytgchfbfgjanaiaa

namespace Go.Proofs.Ytgchfbfgjanaiaa
open Go.RowKit Sr
set_option maxRecDepth 100000 in
set_option maxHeartbeats 4000000 in
theorem grow_nil {n : Nat} (hn : n ≤ 200000) (w : World) : Calls Try.prog 100 #[.slice none 0 0, .int .i64 (n : Int)] w fun e w' => ∃ v, e = .returned v ∧ w'.ownsRow w.heap.size 98 2 v 0 [] ∧ Below w.heap.size w w' := by
  by_cases h0 : n = 0
  · subst h0
    go_enter Try.func100, Try.ntmps100
    go_wp2_with fail
    go_ret
    exact ⟨_, rfl, World.ownsRow_nil _ _ _ _, Below.refl _ _⟩
  · obtain ⟨i0, hi, hzz⟩ := Option.map_eq_some_iff.1 el_term.info
    simp only [Prod.mk.injEq] at hzz
    obtain ⟨hz0, hz1, hz2⟩ := hzz
    have happ := Lib.run_append_nil_zeros (P := Try.prog) w 96 3 96 98 i0 _ .i64 .i64 Try.underlying96 Try.underlying3 hi hz0 n (by omega) (by omega) (by omega) (by rw [hz2]; omega)
    generalize hcap : grownCap w n 0 98 = cap2 at happ
    have hcapge : n ≤ cap2 := by rw [← hcap]; exact grownCap_ge w _ 0 98
    have hcaple : cap2 ≤ maxLen := by rw [← hcap]; exact grownCap_le_maxLen w _ 0 98 (by unfold maxLen; omega)
    generalize hZ : (Builtin.zeroCells (Value.agg #[.bool false, .int .i64 0]).cells n ++ Builtin.zeroCells (Value.agg #[.bool false, .int .i64 0]).cells (cap2 - n)) = Z at happ
    have hZs : Z.size = cap2 * 2 := by rw [← hZ]; simp [size_zeroCells, Value.cells]; omega
    have hm : IntKind.i64.wrap ((n : Int) - 0) = (n : Int) := by rw [IntKind.wrap_i64]; omega
    have h00 : IntKind.i64.wrap 0 = 0 := by decide
    have hnp : (0 : Int) < (n : Int) := by omega
    have HC := Sealed.mk (And.intro hcaple hZs); clear hcap hZ hcaple hZs
    have hc0 : (0 : Int) ≤ (cap2 : Int) := by omega
    go_enter Try.func100, Try.ntmps100
    go_wp2_with (at_builtin; refine Lib.wpList_append_run _ rfl (.tmp 20) (.tmp 21) 96 3 rfl _ _ rfl rfl _ _ happ ?_)
    go_ret
    refine ⟨_, rfl, ?_, ?_⟩
    · exact World.ownsRow_made (base := w.heap.size) w Z cap2 (Nat.le_refl _) HC.out.1 HC.out.2
    · have := (Below.refl w.heap.size w).alloc (Nat.le_refl _) (.cells Z 98)
      exact ⟨this.os, this.tape, this.output, this.size, this.block⟩
theorem ap_TL {ops : Array Oper} {rest : List Oper} {o : Oper} {a : Act} {Q : Exit → Act → World → Prop} {W : World} {B n : Nat} {v xv : Value} {xs : List Value} {l : List (Bool × Nat)} (s x : Operand) (hgd : o.guard = none)
    (ho : o.op = .call { callee := .builtin .append, args := #[s, x], argTypes := #[96, 96] }) (hs : a.eval s = v) (hown : W.ownsRow B 98 2 v n xs) (hx : a.eval x = xv) (hl : TL W xv l) (hn : n ≤ 200000) (hB : B ≤ W.heap.size)
    (h : ∀ v' w', w'.ownsRow B 98 2 v' (n + l.length) (xs ++ tcells l) → W.grownBy w' v.ownBlock → wpList Try.prog ops Q rest (a.put o.dst v') w') : wpList Try.prog ops Q (o :: rest) a W := by
  obtain ⟨h1, h0, aa, c, rfl, h2, h3⟩ := hl
  by_cases hl0 : l = []
  · subst hl0
    obtain ⟨A, c', rfl⟩ := own_slice hown
    have hc : n ≤ c' := by
      rcases hown.2 with ⟨e, h0⟩ | ⟨g, cap, cur, e, _, _, hh, _⟩
      · obtain ⟨-, -, rfl⟩ := Value.slice.inj e; omega
      · obtain ⟨-, -, rfl⟩ := Value.slice.inj e; exact hh
    exact ap_none el_term s x hgd ho hs hc hx (h _ _ (by simpa [tcells] using hown) ⟨rfl, rfl, rfl, Nat.le_refl _, fun _ _ _ => rfl⟩)
  · obtain ⟨b, off, rfl, hr⟩ := h3 hl0
    exact ap_blk el_term s x hgd ho hs hown hx (tcells_length l) hr.reads (tcells_one l) (by omega) hB fun v' w' q1 q2 _ => h v' w' q1 q2
set_option maxRecDepth 100000 in
set_option maxHeartbeats 4000000 in
theorem concat_two {w : World} {bs : Nat} {va vb : Value} {la lb : List (Bool × Nat)} (hs : w.heap[bs]? = some (.cells #[va, vb] 96 (0, 0))) (ha : TL w va la) (hb : TL w vb lb) :
    Calls Try.prog 76 #[.slice (some ⟨bs, 0, none⟩) 2 2] w fun e w' => ∃ a c, e = .returned (.slice a (la.length + lb.length) c) ∧ w'.ownsRow w.heap.size 98 2 (.slice a (la.length + lb.length) c) (la.length + lb.length) (tcells (la ++ lb)) ∧ Below w.heap.size w w' := by
  obtain ⟨aa, na, ca, rfl⟩ := ha.slice
  obtain ⟨ab, nb, cb, rfl⟩ := hb.slice
  have ea : na = la.length := ha.cells.1
  have eb : nb = lb.length := hb.cells.1
  have la1 : na ≤ 100000 := ha.cells.2.1
  have lb1 : nb ≤ 100000 := hb.cells.2.1
  have c0 : w.cell? ⟨bs, 0, none⟩ = some (.slice aa na ca) := (cell_of_blk hs 0).trans rfl
  have c1 : w.cell? ⟨bs, 1, none⟩ = some (.slice ab nb cb) := (cell_of_blk hs 1).trans rfl
  have hgr := grow_nil (n := na + nb) (by omega) w
  rw [Int.natCast_add] at hgr
  rw [← ea, ← eb]
  have e1 : IntKind.i64.wrap (0 + (na : Int)) = (na : Int) := by rw [IntKind.wrap_i64]; omega
  have e2 : IntKind.i64.wrap ((na : Int) + (nb : Int)) = ((na + nb : Nat) : Int) := by rw [IntKind.wrap_i64]; omega
  have H := Sealed.mk (And.intro hs (And.intro ha (And.intro hb (And.intro ea eb)))); clear hs ha hb ea eb
  have HGR := Sealed.mk hgr; clear hgr
  go_enter Try.func76, Try.ntmps76
  go_wp2_with fail
  refine wp_loop_rounds 3 ?_
  rw [rounds_succ]
  go_wp2_with fail
  rw [rounds_succ]
  go_wp2_with fail
  rw [rounds_succ]
  go_wp2_with fail
  refine HGR.out.mono ?_
  rintro e w1 ⟨v0, rfl, hown0, hb1⟩
  have d0 : w1.cell? ⟨bs, 0, none⟩ = some (.slice aa na ca) := (cell_same (hb1.block bs (lt_of_cell c0)) 0).trans c0
  have d1 : w1.cell? ⟨bs, 1, none⟩ = some (.slice ab nb cb) := (cell_same (hb1.block bs (lt_of_cell c1)) 1).trans c1
  have H1 := Sealed.mk (And.intro hown0 (And.intro hb1 (And.intro c0 c1))); clear hown0 hb1 c0 c1
  go_wp2_with fail
  refine wp_loop_rounds 3 ?_
  rw [rounds_succ]
  go_wp2_with (at_builtin; go_must (refine ap_TL (.tmp 31) (.tmp 32) rfl rfl rfl H1.out.1 rfl (H.out.2.1.below H1.out.2.1) (by omega) H1.out.2.1.size ?_))
  intro v1 w2 hown1 hg1
  have hbs : bs < w.heap.size := lt_of_blk H.out.1
  have hne0 : v0.ownBlock ≠ some bs := fun e => by have := own_ge H1.out.1 bs e; omega
  have hb2 : Below w.heap.size w w2 := H1.out.2.1.grown hg1 H1.out.2.1.size fun q hq => own_ge H1.out.1 q hq
  have f1 : w2.cell? ⟨bs, 1, none⟩ = some (.slice ab nb cb) := (cell_same (hb2.block bs hbs) 1).trans H1.out.2.2.2
  have H2 := Sealed.mk (And.intro hown1 hb2); clear hown1 hg1 hb2 d0 d1 hne0
  have HBS := Sealed.mk hbs; clear hbs
  go_wp2_with fail
  rw [rounds_succ]
  go_wp2_with (at_builtin; go_must (refine ap_TL (.tmp 31) (.tmp 32) rfl rfl rfl H2.out.1 rfl (H.out.2.2.1.below H2.out.2) (by have := H.out.2.2.2.1; omega) H2.out.2.size ?_))
  intro v2 w3 hown2 hg2
  have hb3 : Below w.heap.size w w3 := H2.out.2.grown hg2 H2.out.2.size fun q hq => own_ge H2.out.1 q hq
  have H3 := Sealed.mk (And.intro hown2 hb3); clear hown2 hg2 hb3 f1
  go_wp2_with fail
  rw [rounds_succ]
  go_wp2_with fail
  go_ret
  obtain ⟨a3, c3, e3⟩ := own_slice H3.out.1
  subst e3
  have ea := H.out.2.2.2.1
  have eb := H.out.2.2.2.2
  subst ea
  subst eb
  refine ⟨a3, c3, ?_, ?_, H3.out.2⟩
  · simp
  · have := H3.out.1
    rw [tcells_append]
    simpa using this
end Go.Proofs.Ytgchfbfgjanaiaa

namespace Go.Proofs.Ytgchfbfgjanaiaa
open Go.RowKit Sr
structure GB where
  bh : Nat
  bo : Nat
  bw : Nat
  bp : Nat
  bk : Nat
  mh : Nat
  B : Nat
def pt (b : Nat) : Value := .pointer (some ⟨b, 0, none⟩)
def GB.free (g : GB) : Array Value := #[pt g.bh, pt g.bo, pt g.bw, pt g.bp, pt g.bk]
def Var (w : World) (b : Nat) (v : Value) : Prop := ∃ ty, w.heap[b]? = some (.cells #[v] ty (0, 0))
theorem Var.same {w w1 : World} {b : Nat} {v : Value} (h : Var w b v) (e : w1.heap[b]? = w.heap[b]?) : Var w1 b v := by
  obtain ⟨ty, h⟩ := h; exact ⟨ty, e.trans h⟩
theorem Var.lt {w : World} {b : Nat} {v : Value} (h : Var w b v) : b < w.heap.size := by obtain ⟨ty, h⟩ := h; exact lt_of_blk h
theorem Var.cell {w : World} {b : Nat} {v : Value} (h : Var w b v) : w.cell? ⟨b, 0, none⟩ = some v := by obtain ⟨ty, h⟩ := h; rw [cell_of_blk h]; rfl
theorem Var.thaw {w : World} {b : Nat} {v : Value} (h : Var w b v) : w.frozen? ⟨b, 0, none⟩ = false := by obtain ⟨ty, h⟩ := h; exact frozen_of_blk h 0
theorem Var.set {w : World} {b : Nat} {v : Value} (h : Var w b v) (u : Value) : Var (w.setCell ⟨b, 0, none⟩ u) b u := by
  obtain ⟨ty, h⟩ := h; exact ⟨ty, by rw [blk_setCell h]; simp⟩
theorem setCell_other {w : World} {b k : Nat} (u : Value) (h : k ≠ b) (hk : k < w.heap.size) : (w.setCell ⟨b, 0, none⟩ u).heap[k]? = w.heap[k]? :=
  ((Ext.refl (fun q => q = b) w).setCell (p := ⟨b, 0, none⟩) (.inl rfl) u).block k hk h
structure GB.Ok (g : GB) (N0 : Nat) : Prop where
  low : N0 ≤ g.bh ∧ N0 ≤ g.bo ∧ N0 ≤ g.bw ∧ N0 ≤ g.bp ∧ N0 ≤ g.bk ∧ N0 ≤ g.mh
  high : g.bh < g.B ∧ g.bo < g.B ∧ g.bw < g.B ∧ g.bp < g.B ∧ g.bk < g.B ∧ g.mh < g.B
  o : g.bo ≠ g.bh ∧ g.bo ≠ g.bw ∧ g.bo ≠ g.bp ∧ g.bo ≠ g.bk ∧ g.bo ≠ g.mh
  p : g.bp ≠ g.bh ∧ g.bp ≠ g.bw ∧ g.bp ≠ g.bk ∧ g.bp ≠ g.mh
  m : g.mh ≠ g.bh ∧ g.mh ≠ g.bw ∧ g.mh ≠ g.bk
structure GM (g : GB) (wp : Nat) (vs : List Int) (wr : World) (ok : Bool) (ps : List Nat) (hl : List (Int × Int)) : Prop where
  ch : Var wr g.bh (.map (some g.mh))
  co : Var wr g.bo (.bool ok)
  cw : Var wr g.bw (pt wp)
  ck : Var wr g.bk (.func (.func 90) #[] g.free)
  cp : ∃ pv, Var wr g.bp pv ∧ wr.ownsRow g.B 3 1 pv ps.length (icells (ps.map fun e : Nat => vs.idxOf (e : Int)))
  hm : MapIs (fun n : Int => Value.int .i64 n) wr g.mh hl
  size : g.B ≤ wr.heap.size
variable {g : GB} {N0 wp : Nat} {vs : List Int} {wr w' : World} {ok : Bool} {ps : List Nat} {hl : List (Int × Int)}
theorem GM.keep (h : GM g wp vs wr ok ps hl) (e : Ext noB wr w') : GM g wp vs w' ok ps hl := by
  have hb : ∀ k, k < wr.heap.size → w'.heap[k]? = wr.heap[k]? := fun k hk => e.block k hk fun h => h
  obtain ⟨pv, h1, h2⟩ := h.cp
  exact ⟨h.ch.same (hb _ h.ch.lt), h.co.same (hb _ h.co.lt), h.cw.same (hb _ h.cw.lt), h.ck.same (hb _ h.ck.lt), ⟨pv, h1.same (hb _ h1.lt), own_ext h2 e fun _ _ h => h⟩, h.hm.same (hb _ h.hm.lt), Nat.le_trans h.size e.size⟩
theorem GM.setOk (h : GM g wp vs wr ok ps hl) (hg : g.Ok N0) (ok' : Bool) : GM g wp vs (wr.setCell ⟨g.bo, 0, none⟩ (.bool ok')) ok' ps hl := by
  obtain ⟨o1, o2, o3, o4, o5⟩ := hg.o
  obtain ⟨pv, h1, h2⟩ := h.cp
  have hx : Ext (fun q => q = g.bo) wr (wr.setCell ⟨g.bo, 0, none⟩ (.bool ok')) := (Ext.refl (fun q => q = g.bo) wr).setCell (p := ⟨g.bo, 0, none⟩) (.inl rfl) _
  exact ⟨h.ch.same (hx.block _ h.ch.lt fun e => o1 e.symm), h.co.set _, h.cw.same (hx.block _ h.cw.lt fun e => o2 e.symm), h.ck.same (hx.block _ h.ck.lt fun e => o4 e.symm),
    ⟨pv, h1.same (hx.block _ h1.lt fun e => o3 e.symm), own_ext h2 hx fun k hk e => by have := (h2.lt k hk).1; have := hg.high; omega⟩, h.hm.same (hx.block _ h.hm.lt fun e => o5 e.symm), Nat.le_trans h.size hx.size⟩
theorem GM.setMap (h : GM g wp vs wr ok ps hl) (hg : g.Ok N0) {hl' : List (Int × Int)} (hm : MapIs (fun n : Int => Value.int .i64 n) w' g.mh hl') (hgr : wr.grownBy w' (some g.mh)) : GM g wp vs w' ok ps hl' := by
  obtain ⟨m1, m2, m3⟩ := hg.m
  obtain ⟨pv, h1, h2⟩ := h.cp
  have hx : Ext (fun q => q = g.mh) wr w' := (Ext.refl _ wr).grown hgr fun k hk => .inl (Option.some.inj hk).symm
  exact ⟨h.ch.same (hx.block _ h.ch.lt fun e => m1 e.symm), h.co.same (hx.block _ h.co.lt fun e => hg.o.2.2.2.2 e), h.cw.same (hx.block _ h.cw.lt fun e => m2 e.symm), h.ck.same (hx.block _ h.ck.lt fun e => m3 e.symm),
    ⟨pv, h1.same (hx.block _ h1.lt fun e => hg.p.2.2.2 e), own_ext h2 hx fun k hk e => by have := (h2.lt k hk).1; have := hg.high; omega⟩, hm, Nat.le_trans h.size hx.size⟩
theorem GM.setParts (h : GM g wp vs wr ok ps hl) (hg : g.Ok N0) {pv pv' : Value} (hv : Var wr g.bp pv) (hown : wr.ownsRow g.B 3 1 pv ps.length (icells (ps.map fun e : Nat => vs.idxOf (e : Int)))) (hgr : wr.grownBy w' pv.ownBlock) {ps' : List Nat}
    (hown' : w'.ownsRow g.B 3 1 pv' ps'.length (icells (ps'.map fun e : Nat => vs.idxOf (e : Int)))) : GM g wp vs (w'.setCell ⟨g.bp, 0, none⟩ pv') ok ps' hl := by
  have hhi := hg.high
  have hx0 : Ext (fun q => pv.ownBlock = some q) wr w' := ⟨hgr.os, hgr.tape, hgr.output, hgr.size, fun q hq hn => hgr.block q hq fun e => hn e.symm⟩
  have hlow : ∀ q, pv.ownBlock = some q → g.B ≤ q := fun q hq => (hown.lt q hq).1
  have hlow' : ∀ q, pv'.ownBlock = some q → g.B ≤ q := fun q hq => (hown'.lt q hq).1
  have hx1 : Ext (fun q => q = g.bp) w' (w'.setCell ⟨g.bp, 0, none⟩ pv') := (Ext.refl (fun q => q = g.bp) w').setCell (p := ⟨g.bp, 0, none⟩) (.inl rfl) _
  have hk : ∀ k, k < wr.heap.size → k < g.B → k ≠ g.bp → (w'.setCell ⟨g.bp, 0, none⟩ pv').heap[k]? = wr.heap[k]? := fun k h1 h2 h3 =>
    (hx1.block k (Nat.lt_of_lt_of_le h1 hx0.size) h3).trans (hx0.block k h1 fun e => by have := hlow k e; omega)
  have hv' : Var w' g.bp pv := hv.same (hx0.block _ hv.lt fun e => by have := hlow _ e; omega)
  exact ⟨h.ch.same (hk _ h.ch.lt hhi.1 hg.p.1.symm), h.co.same (hk _ h.co.lt hhi.2.1 hg.o.2.2.1), h.cw.same (hk _ h.cw.lt hhi.2.2.1 hg.p.2.1.symm), h.ck.same (hk _ h.ck.lt hhi.2.2.2.2.1 hg.p.2.2.1.symm),
    ⟨pv', hv'.set _, own_ext hown' hx1 fun k hq e => by have := hlow' k hq; omega⟩, h.hm.same (hk _ h.hm.lt hhi.2.2.2.2.2 hg.p.2.2.2.symm), Nat.le_trans h.size (Nat.le_trans hx0.size hx1.size)⟩
theorem Var.one {w : World} {b : Nat} {u v : Value} (h : Var w b u) (k : Var w b v) : u = v := by
  obtain ⟨t1, h⟩ := h
  obtain ⟨t2, k⟩ := k
  rw [h] at k
  simp only [Option.some.injEq, Obj.cells.injEq] at k
  simpa using k.1
def GX (g : GB) (w : World) (q : Nat) : Prop := q = g.bo ∨ q = g.bp ∨ q = g.mh ∨ ∃ pv, Var w g.bp pv ∧ pv.ownBlock = some q
structure GStep (g : GB) (w w' : World) : Prop where
  ext : Ext (GX g w) w w'
  news : ∀ q, GX g w' q → GX g w q ∨ w.heap.size ≤ q
theorem GStep.refl (g : GB) (w : World) : GStep g w w := ⟨Ext.refl _ _, fun _ h => .inl h⟩
theorem GStep.trans {w1 w2 : World} (h : GStep g wr w1) (k : GStep g w1 w2) : GStep g wr w2 :=
  ⟨h.ext.trans k.ext h.news, fun q hq => by
    rcases k.news q hq with h1 | h1
    · exact h.news q h1
    · exact .inr (Nat.le_trans h.ext.size h1)⟩
theorem GStep.of_ext {N : Nat → Prop} (e : Ext N wr w') (hN : ∀ q, N q → GX g wr q) (hp : g.bp < wr.heap.size) (hn : ¬ N g.bp) : GStep g wr w' :=
  ⟨e.imp fun q hq => .inl (hN q hq), fun q hq => by
    rcases hq with h | h | h | ⟨pv, ⟨ty, h1⟩, h2⟩
    · exact .inl (.inl h)
    · exact .inl (.inr (.inl h))
    · exact .inl (.inr (.inr (.inl h)))
    · exact .inl (.inr (.inr (.inr ⟨pv, ⟨ty, (e.block _ hp hn).symm.trans h1⟩, h2⟩)))⟩
theorem GX.back {N : Nat → Prop} (e : Ext N wr w') (hp : g.bp < wr.heap.size) (hn : ¬ N g.bp) {q : Nat} (h : GX g w' q) : GX g wr q := by
  rcases h with h | h | h | ⟨pv, ⟨ty, h1⟩, h2⟩
  · exact .inl h
  · exact .inr (.inl h)
  · exact .inr (.inr (.inl h))
  · exact .inr (.inr (.inr ⟨pv, ⟨ty, (e.block _ hp hn).symm.trans h1⟩, h2⟩))
theorem GM.gx_lt (h : GM g wp vs wr ok ps hl) {q : Nat} (hq : GX g wr q) : q < wr.heap.size := by
  obtain ⟨pv, h1, h2⟩ := h.cp
  rcases hq with e | e | e | ⟨pv', h3, h4⟩
  · rw [e]; exact h.co.lt
  · rw [e]; exact h1.lt
  · rw [e]; exact h.hm.lt
  · rw [h3.one h1] at h4; exact (h2.lt q h4).2
theorem GM.bplt (h : GM g wp vs wr ok ps hl) : g.bp < wr.heap.size := by obtain ⟨pv, h1, _⟩ := h.cp; exact h1.lt
theorem GStep.below (k : GStep g wr w') (h : GM g wp vs wr ok ps hl) (hg : g.Ok N0) : Below N0 wr w' :=
  ⟨k.ext.os, k.ext.tape, k.ext.output, k.ext.size, fun q hq => k.ext.block q (by have := h.size; have := hg.low; have := hg.high; omega) fun hx => by
    have hl := hg.low
    have hh := hg.high
    rcases hx with e | e | e | ⟨pv, h1, h2⟩
    · omega
    · omega
    · omega
    · obtain ⟨pv', h3, h4⟩ := h.cp
      rw [h1.one h3] at h2
      have := (h4.lt q h2).1
      omega⟩
theorem GStep.setParts (h : GM g wp vs wr ok ps hl) {pv pv' : Value} (hv : Var wr g.bp pv) (hgr : wr.grownBy w' pv.ownBlock) (hn : NewOr wr pv pv') (hne : pv.ownBlock ≠ some g.bp) : GStep g wr (w'.setCell ⟨g.bp, 0, none⟩ pv') := by
  have hx0 : Ext (fun q => pv.ownBlock = some q) wr w' := ⟨hgr.os, hgr.tape, hgr.output, hgr.size, fun q hq hn => hgr.block q hq fun e => hn e.symm⟩
  have hx1 : Ext (fun q => q = g.bp) w' (w'.setCell ⟨g.bp, 0, none⟩ pv') := (Ext.refl (fun q => q = g.bp) w').setCell (p := ⟨g.bp, 0, none⟩) (.inl rfl) _
  have hv' : Var w' g.bp pv := hv.same (hx0.block _ hv.lt fun e => hne e)
  refine ⟨(hx0.imp (M := GX g wr) fun q hq => .inl (.inr (.inr (.inr ⟨pv, hv, hq⟩)))).trans hx1 fun q hq => .inl (.inr (.inl hq)), fun q hq => ?_⟩
  rcases hq with h | h | h | ⟨pw, h1, h2⟩
  · exact .inl (.inl h)
  · exact .inl (.inr (.inl h))
  · exact .inl (.inr (.inr (.inl h)))
  · rw [h1.one (hv'.set pv')] at h2
    rcases hn with e | ⟨k, e, hk⟩
    · exact .inl (.inr (.inr (.inr ⟨pv, hv, by rw [← e]; exact h2⟩)))
    · rw [e] at h2
      obtain rfl := Option.some.inj h2
      exact .inr hk
end Go.Proofs.Ytgchfbfgjanaiaa
