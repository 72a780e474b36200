/- one more power of two in a form: plain -/
import Derived.Test.YtgchfbfgjanaiaaA01
set_option linter.unusedSimpArgs false
set_option linter.unusedVariables false
namespace Go.Proofs.Ytgchfbfgjanaiaa.Sr
def Gap (l : List T) : Prop := l.Pairwise fun s t => t.2 + 2 ≤ s.2
theorem under_cut {l : List T} {n m : Nat} (h : Under n l) (hm : ∀ t ∈ l, t.2 < m) : Under m l := by
 cases l with
 | nil => trivial
 | cons t l => exact ⟨hm t (by simp), h.2⟩
theorem under_gap : ∀ (l : List T) (n : Nat), Under n l → Gap l
 | [], _, _ => List.Pairwise.nil
 | t :: l, n, h => by
   refine List.pairwise_cons.2 ⟨fun s hs => ?_, under_gap l _ h.2.1⟩
   have h1 := under_mem l _ h.2.1 s hs
   have h2 := h.2.2 (by intro e; rw [e] at hs; simp at hs)
   omega
theorem gap_under : ∀ (l : List T), Gap l → Form l
 | [], _ => ⟨0, trivial⟩
 | t :: l, h => by
   obtain ⟨h1, h2⟩ := List.pairwise_cons.1 h
   obtain ⟨n, hn⟩ := gap_under l h2
   refine ⟨t.2 + 1, by omega, under_cut hn fun s hs => ?_, fun hl => ?_⟩
   ·have := h1 s hs; omega
   ·obtain ⟨s, hs⟩ := List.exists_mem_of_ne_nil l hl
    have := h1 s hs; omega
theorem gap_form (x : Int) : Gap (form x) := by obtain ⟨n, h⟩ := form_form x; exact under_gap _ _ h
theorem form_gap {l : List T} {x : Int} (h : Gap l) (hv : val l = x) : form x = l := form_of (gap_under l h) hv
theorem gap_app {a b : List T} : Gap (a ++ b) ↔ Gap a ∧ Gap b ∧ ∀ s ∈ a, ∀ t ∈ b, t.2 + 2 ≤ s.2 := List.pairwise_append
theorem gap_cons {t : T} {l : List T} : Gap (t :: l) ↔ (∀ s ∈ l, s.2 + 2 ≤ t.2) ∧ Gap l := List.pairwise_cons
theorem gap_sub {a b : List T} (h : a.Sublist b) (g : Gap b) : Gap a := g.sublist h
theorem tv_not (m : Bool) (e : Nat) : tv (!m, e) = -tv (m, e) := by unfold tv; cases m <;> simp
theorem tv_up (m : Bool) (e : Nat) : tv (m, e + 1) = 2 * tv (m, e) := by unfold tv; have := pow_succ' e; cases m <;> simp <;> omega
theorem val_mid (a b : List T) (t : T) : val (a ++ t :: b) = val (a ++ b) + tv t := by rw [val_append, val_append]; simp only [val]; omega
def cnt (e : Nat) (l : List T) : Nat := (l.filter fun s => decide (e ≤ s.2 + 1)).length
theorem cnt_app (e : Nat) (a b : List T) : cnt e (a ++ b) = cnt e a + cnt e b := by simp [cnt]
theorem cnt_cons (e : Nat) (t : T) (l : List T) : cnt e (t :: l) = (if e ≤ t.2 + 1 then 1 else 0) + cnt e l := by
 unfold cnt
 by_cases h : e ≤ t.2 + 1
 ·rw [List.filter_cons_of_pos (by simpa using h), if_pos h]; simp; omega
 ·rw [List.filter_cons_of_neg (by simpa using h), if_neg h]; omega
theorem cnt_le (e : Nat) (l : List T) : cnt e l ≤ l.length := List.length_filter_le _ _
theorem cnt_up (e : Nat) : ∀ l : List T, cnt (e + 1) l ≤ cnt e l
 | [] => Nat.le_refl _
 | t :: l => by
   have := cnt_up e l
   rw [cnt_cons, cnt_cons]
   split <;> split <;> omega
def Asks (l : List T) (e q : Nat) : Prop :=
 ((∃ s ∈ l, s.2 = q) ∨ (e ≤ q ∧ q ≤ e + 2 * cnt e l)) ∧ ((∀ s ∈ l, s.2 + 1 ≠ e) → ∃ s ∈ l, q ≤ s.2)
section
variable {a b c : List T} {m n : Bool} {e q : Nat}
theorem pls_drop (g : Gap (a ++ (n, e) :: b)) (hn : n ≠ m) : form (val (a ++ (n, e) :: b) + tv (m, e)) = a ++ b := by
 refine form_gap (gap_sub (List.Sublist.append_left (List.sublist_cons_self _ _) _) g) ?_
 rw [val_mid]
 have : n = !m := by cases n <;> cases m <;> simp_all
 rw [this, tv_not]; omega
theorem pls_twice (a b : List T) (m : Bool) (e : Nat) : val (a ++ b) + tv (m, e + 1) = val (a ++ (m, e) :: b) + tv (m, e) := by rw [val_mid, tv_up]; omega
theorem pls_sub (g : Gap (a ++ (n, q) :: b)) : Gap (a ++ b) := gap_sub (List.Sublist.append_left (List.sublist_cons_self _ _) _) g
theorem cnt_twice (ha : ∀ s ∈ a, e < s.2) : cnt (e + 1) (a ++ b) < cnt e (a ++ (m, e) :: b) := by
 have h1 := cnt_up e a
 have h2 := cnt_up e b
 rw [cnt_app, cnt_app, cnt_cons, if_pos (by simp only; omega)]
 omega
theorem asks_twice (ha : ∀ s ∈ a, e < s.2) (g : Gap (a ++ (m, e) :: b)) (h : Asks (a ++ b) (e + 1) q) : Asks (a ++ (m, e) :: b) e q := by
 have hc := cnt_twice (m := m) (b := b) ha
 obtain ⟨h1, h2⟩ := h
 refine ⟨?_, fun _ => ?_⟩
 ·rcases h1 with ⟨s, hs, h⟩ | ⟨h, k⟩
  ·exact .inl ⟨s, by simp at hs ⊢; rcases hs with hs | hs <;> simp [hs], h⟩
  ·exact .inr ⟨by omega, by omega⟩
 ·obtain ⟨s, hs, h⟩ := h2 fun s hs => by
   rcases List.mem_append.1 hs with hs | hs
   ·have := ha s hs; omega
   ·have := (gap_cons.1 (gap_app.1 g).2.1).1 s hs; simp only at this; omega
  exact ⟨s, by simp at hs ⊢; rcases hs with hs | hs <;> simp [hs], h⟩
theorem asks_self (m : Bool) (a b : List T) : Asks (a ++ (m, e) :: b) e e := ⟨.inr ⟨Nat.le_refl _, by omega⟩, fun _ => ⟨(m, e), by simp, Nat.le_refl _⟩⟩
theorem asks_mem {l : List T} {s : T} (h : s ∈ l) : Asks l e s.2 := ⟨.inl ⟨s, h, rfl⟩, fun _ => ⟨s, h, Nat.le_refl _⟩⟩
theorem asks_less {l : List T} {s : T} (h : s ∈ l) (he : e < s.2) : Asks l e e := ⟨.inr ⟨Nat.le_refl _, by omega⟩, fun _ => ⟨s, h, by omega⟩⟩
theorem pls_half (a b : List T) (n : Bool) (hn : n ≠ m) : val (a ++ b) + tv (n, e) = val (a ++ (n, e + 1) :: b) + tv (m, e) := by
 have : n = !m := by cases n <;> cases m <;> simp_all
 rw [val_mid, this, tv_up, tv_not]; omega
theorem cnt_half (a b : List T) (n : Bool) (e : Nat) : cnt e (a ++ b) < cnt e (a ++ (n, e + 1) :: b) := by
 rw [cnt_app, cnt_app, cnt_cons, if_pos (by simp only; omega)]; omega
theorem asks_half (h : Asks (a ++ b) e q) : Asks (a ++ (n, e + 1) :: b) e q := by
 have hc := cnt_half a b n e
 obtain ⟨h1, h2⟩ := h
 have hm : ∀ s, s ∈ a ++ b → s ∈ a ++ (n, e + 1) :: b := fun s hs => by simp at hs ⊢; rcases hs with hs | hs <;> simp [hs]
 refine ⟨?_, fun hq => ?_⟩
 ·rcases h1 with ⟨s, hs, h⟩ | ⟨h, k⟩
  ·exact .inl ⟨s, hm s hs, h⟩
  ·exact .inr ⟨h, by omega⟩
 ·obtain ⟨s, hs, h⟩ := h2 fun s hs => hq s (hm s hs)
  exact ⟨s, hm s hs, h⟩
theorem pls_three (a b : List T) (m : Bool) (e : Nat) : (val (a ++ b) + tv (!m, e)) + tv (m, e + 1 + 1) = val (a ++ (m, e + 1) :: b) + tv (m, e) := by
 rw [val_mid, tv_up, tv_up, tv_not]; omega
theorem three_form (ha : ∀ s ∈ a, e + 3 ≤ s.2) (hb : ∀ s ∈ b, s.2 + 1 ≤ e) (g : Gap (a ++ b)) : ∃ c, form (val (a ++ b) + tv (!m, e)) = a ++ c ∧
  ((∀ s ∈ b, s.2 + 2 ≤ e) → c = (!m, e) :: b) ∧
  ((∃ n d, b = (n, e - 1) :: d ∧ 1 ≤ e) → ∃ n d, b = (n, e - 1) :: d ∧ 1 ≤ e ∧ (c = (!m, e - 1) :: d ∨ c = (!m, e + 1) :: (m, e - 1) :: d)) := by
 obtain ⟨ga, gb, gab⟩ := gap_app.1 g
 by_cases h : ∀ s ∈ b, s.2 + 2 ≤ e
 ·refine ⟨(!m, e) :: b, form_gap (gap_app.2 ⟨ga, gap_cons.2 ⟨h, gb⟩, fun s hs t ht => ?_⟩) ?_, fun _ => rfl, ?_⟩
  ·have h1 := ha s hs
   rcases List.mem_cons.1 ht with rfl | ht
   ·simp only; omega
   ·have := hb t ht; omega
  ·rw [val_mid]
  ·rintro ⟨n, d, rfl, h1⟩
   have := h (n, e - 1) (by simp)
   simp only at this
   omega
 ·obtain ⟨n, d, rfl, h1⟩ : ∃ n d, b = (n, e - 1) :: d ∧ 1 ≤ e := by
   cases b with
   | nil => exact absurd (fun s hs => by simp at hs) h
   | cons t d =>
     obtain ⟨n, f⟩ := t
     have h1 := hb (n, f) (by simp)
     have h2 := (gap_cons.1 gb).1
     simp only at h1 h2
     by_cases h3 : f + 2 ≤ e
     ·exact absurd (fun s hs => by
       rcases List.mem_cons.1 hs with rfl | hs
       ·exact h3
       ·have := h2 s hs; omega) h
     ·exact ⟨n, d, by rw [show f = e - 1 by omega], by omega⟩
  obtain ⟨f, rfl⟩ : ∃ f, e = f + 1 := ⟨e - 1, by omega⟩
  simp only [Nat.add_sub_cancel] at *
  obtain ⟨gd1, gd⟩ := gap_cons.1 gb
  simp only at gd1
  by_cases hn : n = m
  ·subst hn
   refine ⟨(!n, f) :: d, form_gap (gap_app.2 ⟨ga, gap_cons.2 ⟨gd1, gd⟩, fun s hs t ht => ?_⟩) ?_, fun h' => absurd h' h, fun _ => ⟨n, d, rfl, h1, .inl rfl⟩⟩
   ·have h1 := ha s hs
    rcases List.mem_cons.1 ht with rfl | ht
    ·simp only; omega
    ·have := gd1 t ht; omega
   ·rw [val_mid, val_mid, tv_up, tv_not]; omega
  ·have hn' : n = !m := by cases n <;> cases m <;> simp_all
   refine ⟨(!m, f + 1 + 1) :: (m, f) :: d, form_gap (gap_app.2 ⟨ga, gap_cons.2 ⟨fun s hs => ?_, gap_cons.2 ⟨gd1, gd⟩⟩, fun s hs t ht => ?_⟩) ?_, fun h' => absurd h' h, fun _ => ⟨n, d, rfl, h1, .inr rfl⟩⟩
   ·rcases List.mem_cons.1 hs with rfl | hs
    ·simp only; omega
    ·have := gd1 s hs; simp only; omega
   ·have h1 := ha s hs
    rcases List.mem_cons.1 ht with rfl | ht
    ·simp only; omega
    rcases List.mem_cons.1 ht with rfl | ht
    ·simp only; omega
    ·have := gd1 t ht; omega
   ·rw [val_mid, val_mid, val_mid, hn', tv_up, tv_up, tv_not]; omega
theorem three_all (ha : ∀ s ∈ a, e + 3 ≤ s.2) (hb : ∀ s ∈ b, s.2 + 1 ≤ e) (g : Gap (a ++ b)) :
  cnt (e + 1 + 1) (form (val (a ++ b) + tv (!m, e))) < cnt e (a ++ (m, e + 1) :: b) ∧
  (form (val (a ++ b) + tv (!m, e))).length ≤ (a ++ (m, e + 1) :: b).length ∧
  (∀ q, Asks (form (val (a ++ b) + tv (!m, e))) (e + 1 + 1) q → Asks (a ++ (m, e + 1) :: b) e q) := by
 obtain ⟨c, hc, h1, h2⟩ := three_form (m := m) ha hb g
 rw [hc]
 have ca : cnt (e + 1 + 1) a ≤ cnt e a := Nat.le_trans (cnt_up _ _) (cnt_up _ _)
 by_cases hs : ∀ s ∈ b, s.2 + 2 ≤ e
 ·rw [h1 hs]
  have cb : cnt (e + 1 + 1) b ≤ cnt e b := Nat.le_trans (cnt_up _ _) (cnt_up _ _)
  have k1 : cnt (e + 1 + 1) (a ++ (!m, e) :: b) < cnt e (a ++ (m, e + 1) :: b) := by
   rw [cnt_app, cnt_app, cnt_cons, cnt_cons, if_neg (by simp only; omega), if_pos (by simp only; omega)]; omega
  refine ⟨k1, by simp, fun q h => ?_⟩
  obtain ⟨h3, h4⟩ := h
  refine ⟨?_, fun _ => ?_⟩
  ·rcases h3 with ⟨s, hs', h⟩ | ⟨h, k⟩
   ·simp at hs'
    rcases hs' with hs' | rfl | hs'
    ·exact .inl ⟨s, by simp [hs'], h⟩
    ·exact .inr ⟨by simp only at h; omega, by simp only at h; omega⟩
    ·exact .inl ⟨s, by simp [hs'], h⟩
   ·exact .inr ⟨by omega, by omega⟩
  ·obtain ⟨s, hs', h⟩ := h4 fun s hs' => by
    simp at hs'
    rcases hs' with hs' | rfl | hs'
    ·have := ha s hs'; omega
    ·simp only; omega
    ·have := hs s hs'; omega
   simp at hs'
   rcases hs' with hs' | rfl | hs'
   ·exact ⟨s, by simp [hs'], h⟩
   ·exact ⟨(m, e + 1), by simp, by simp only at h ⊢; omega⟩
   ·exact ⟨s, by simp [hs'], h⟩
 ·obtain ⟨n, d, rfl, h3⟩ : ∃ n d, b = (n, e - 1) :: d ∧ 1 ≤ e := by
   cases b with
   | nil => exact absurd (fun s hs => by simp at hs) hs
   | cons t d =>
     obtain ⟨n, f⟩ := t
     have h1 := hb (n, f) (by simp)
     have h2 := (gap_cons.1 (gap_app.1 g).2.1).1
     simp only at h1 h2
     by_cases h3 : f + 2 ≤ e
     ·exact absurd (fun s hs' => by
       rcases List.mem_cons.1 hs' with rfl | hs'
       ·exact h3
       ·have := h2 s hs'; omega) hs
     ·exact ⟨n, d, by rw [show f = e - 1 by omega], by omega⟩
  obtain ⟨n', d', he, h3', hcc⟩ := h2 ⟨n, d, rfl, h3⟩
  simp only [List.cons.injEq, Prod.mk.injEq, and_true] at he
  obtain ⟨rfl, rfl⟩ := he
  have cd : cnt (e + 1 + 1) d ≤ cnt e d := Nat.le_trans (cnt_up _ _) (cnt_up _ _)
  have hq : ¬ (∀ s ∈ a ++ (m, e + 1) :: (n, e - 1) :: d, s.2 + 1 ≠ e) := fun h => h (n, e - 1) (by simp) (by simp only; omega)
  have kk : cnt (e + 1 + 1) (a ++ c) < cnt e (a ++ (m, e + 1) :: (n, e - 1) :: d) := by
   rcases hcc with rfl | rfl
   ·rw [cnt_app, cnt_app, cnt_cons, cnt_cons, cnt_cons, if_neg (by simp only; omega), if_pos (by simp only; omega), if_pos (by simp only; omega)]; omega
   ·rw [cnt_app, cnt_app, cnt_cons, cnt_cons, cnt_cons, cnt_cons, if_pos (by simp only; omega), if_neg (by simp only; omega), if_pos (by simp only; omega), if_pos (by simp only; omega)]; omega
  refine ⟨kk, by rcases hcc with rfl | rfl <;> simp, fun q h => ⟨?_, fun h' => absurd h' hq⟩⟩
  rcases h.1 with ⟨s, hs', h⟩ | ⟨h, k⟩
  ·have hs2 : s ∈ a ∨ s.2 = e - 1 ∨ s.2 = e + 1 ∨ s ∈ d := by
    rcases hcc with rfl | rfl
    ·simp at hs'
     rcases hs' with hs' | rfl | hs'
     ·exact .inl hs'
     ·exact .inr (.inl rfl)
     ·exact .inr (.inr (.inr hs'))
    ·simp at hs'
     rcases hs' with hs' | rfl | rfl | hs'
     ·exact .inl hs'
     ·exact .inr (.inr (.inl rfl))
     ·exact .inr (.inl rfl)
     ·exact .inr (.inr (.inr hs'))
   rcases hs2 with hs2 | hs2 | hs2 | hs2
   ·exact .inl ⟨s, by simp [hs2], h⟩
   ·exact .inl ⟨(n, e - 1), by simp, by simp only; omega⟩
   ·exact .inl ⟨(m, e + 1), by simp, by simp only; omega⟩
   ·exact .inl ⟨s, by simp [hs2], h⟩
  ·exact .inr ⟨by omega, by omega⟩
theorem pls_flip (g : Gap (a ++ (n, e) :: b)) (ha : ∀ s ∈ a, e + 3 ≤ s.2) (hn : n ≠ m) : form (val (a ++ (n, e) :: b) + tv (m, e + 1)) = a ++ (!n, e) :: b := by
 obtain ⟨ga, gb, gab⟩ := gap_app.1 g
 obtain ⟨g1, g2⟩ := gap_cons.1 gb
 refine form_gap (gap_app.2 ⟨ga, gap_cons.2 ⟨g1, g2⟩, fun s hs t ht => ?_⟩) ?_
 ·rcases List.mem_cons.1 ht with rfl | ht
  ·have := ha s hs; simp only; omega
  ·exact gab s hs t (by simp [ht])
 ·have : n = !m := by cases n <;> cases m <;> simp_all
  rw [val_mid, val_mid, this, tv_up, tv_not, tv_not]; omega
theorem flip_gap (g : Gap (a ++ (n, e) :: b)) : Gap (a ++ (!n, e) :: b) := by
 obtain ⟨ga, gb, gab⟩ := gap_app.1 g
 obtain ⟨g1, g2⟩ := gap_cons.1 gb
 refine gap_app.2 ⟨ga, gap_cons.2 ⟨g1, g2⟩, fun s hs t ht => ?_⟩
 rcases List.mem_cons.1 ht with rfl | ht
 ·exact gab s hs (n, e) (by simp)
 ·exact gab s hs t (by simp [ht])
theorem pls_carry (a b : List T) (m : Bool) (e : Nat) : val (a ++ (!m, e) :: b) + tv (m, e + 1 + 1) = val (a ++ (m, e) :: b) + tv (m, e + 1) := by
 rw [val_mid, val_mid, tv_up, tv_up, tv_not]; omega
theorem cnt_carry (a b : List T) (m n : Bool) (e : Nat) : cnt (e + 1 + 1) (a ++ (n, e) :: b) < cnt (e + 1) (a ++ (m, e) :: b) := by
 have h1 := cnt_up (e + 1) a
 have h2 := cnt_up (e + 1) b
 rw [cnt_app, cnt_app, cnt_cons, cnt_cons, if_neg (by simp only; omega), if_pos (by simp only; omega)]; omega
theorem asks_carry (h : Asks (a ++ (n, e) :: b) (e + 1 + 1) q) : Asks (a ++ (m, e) :: b) (e + 1) q := by
 have hc := cnt_carry a b m n e
 refine ⟨?_, fun h' => absurd rfl (h' (m, e) (by simp))⟩
 rcases h.1 with ⟨s, hs, h⟩ | ⟨h, k⟩
 ·simp at hs
  rcases hs with hs | rfl | hs
  ·exact .inl ⟨s, by simp [hs], h⟩
  ·exact .inl ⟨(m, e), by simp, h⟩
  ·exact .inl ⟨s, by simp [hs], h⟩
 ·exact .inr ⟨by omega, by omega⟩
theorem asks_up (a b : List T) (m : Bool) (e : Nat) : Asks (a ++ (m, e) :: b) (e + 1) (e + 1) :=
 ⟨.inr ⟨Nat.le_refl _, by omega⟩, fun h' => absurd rfl (h' (m, e) (by simp))⟩
theorem pls_put (g : Gap (a ++ b)) (ha : ∀ s ∈ a, e + 2 ≤ s.2) (hb : ∀ s ∈ b, s.2 + 2 ≤ e) : form (val (a ++ b) + tv (m, e)) = a ++ (m, e) :: b := by
 obtain ⟨ga, gb, gab⟩ := gap_app.1 g
 refine form_gap (gap_app.2 ⟨ga, gap_cons.2 ⟨hb, gb⟩, fun s hs t ht => ?_⟩) (val_mid a b (m, e))
 rcases List.mem_cons.1 ht with rfl | ht
 ·exact ha s hs
 ·exact gab s hs t ht
end
theorem under_lt_form {x : Int} {s : T} (h : s ∈ form x) : s.2 < x.natAbs := exps_lt (mem_exps.2 ⟨s, h, rfl⟩)
theorem asks_form {p q : Nat} (h : Asks (form (p : Int)) 0 q) : q < p ∧ (q ∈ exps (p : Int) ∨ q ≤ 2 * (form (p : Int)).length) := by
 obtain ⟨h1, h2⟩ := h
 obtain ⟨s, hs, hq⟩ := h2 fun s _ => by omega
 have := under_lt_form hs
 simp at this
 refine ⟨by omega, ?_⟩
 rcases h1 with ⟨s, hs, h⟩ | ⟨_, h⟩
 ·exact .inl (mem_exps.2 ⟨s, hs, h⟩)
 ·have := cnt_le 0 (form (p : Int))
  exact .inr (by omega)
end Go.Proofs.Ytgchfbfgjanaiaa.Sr
