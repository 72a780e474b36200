/-
  (num.N).Shift
  products: plain, and what the loop of Mul holds
  (num.N).Mul
  terms with numbers as exponents, in memory, and their sum: plain
-/
import Derived.Test.YtgchfbfgjanaiaaJ25
import Derived.Test.YtgchfbfgjanaiaaJ24
import Derived.Deep.RegionHeld3
set_option linter.unusedSimpArgs false
set_option linter.unusedVariables false
namespace Go.Proofs.Ytgchfbfgjanaiaa
open Go.RowKit Sr
def ShiftOut (w : World) (x y : Int) (e : Ending) (w' : World) : Prop :=
  ∃ p er, e = .returned (.tuple #[.agg #[.pointer p], .int .i64 er]) ∧ Below w.heap.size w w' ∧
    ((Whole x y ∧ ((Allowed (shl x y) ∧ er = 0 ∧ NumIs w' (.agg #[.pointer p]) (shl x y)) ∨ (¬ Allowed (shl x y) ∧ p = none ∧ er = 5))) ∨ (¬ Whole x y ∧ p = none ∧ er = 4))
noncomputable def shU (x y : Int) : List Int := addU x y ++ (exps x).map fun e : Nat => (e : Int) + y
theorem shU_length {x y : Int} (hx : Allowed x) (hy : Allowed y) : (shU x y).length ≤ roomW := by
  have h1 := addU_length hx hy
  have h2 := hx.1
  have h3 := plist_len hx
  have h4 := plist_len hy
  have h5 := covU_length (plist x ++ plist y)
  unfold shU addU roomW at *
  simp only [List.length_append, List.length_map, List.length_cons, exps] at *
  omega
theorem shU_sub {x y z : Int} (h : z ∈ addU x y) : z ∈ shU x y := List.mem_append.2 (.inl h)
theorem shU_next {x y : Int} (hx : Allowed x) (hy : Allowed y) {e : Nat} (he : e ∈ exps x) {p : Nat} (hp : SumAt (form (e : Int) ++ form y) p) : NextIn (shU x y) p :=
  hull_sum ((hull_plist hx).append (hull_plist hy)) (fun z hz => shU_sub (by simp [addU, hz])) (fun t ht => by
    rcases List.mem_append.1 ht with h | h
    · exact List.mem_append.2 (.inl (mem_plist.2 ((Part.here he).up (mem_exps.2 ⟨t, h, rfl⟩))))
    · exact List.mem_append.2 (.inr (form_plist t h))) hp
set_option maxRecDepth 100000 in
set_option maxHeartbeats 4000000 in
theorem Shift_any {w : World} {u v : Value} {x y : Int} (hx : NumIs w u x) (hy : NumIs w v y) : Calls Try.prog 25 #[u, v] w (ShiftOut w x y) := by
  obtain ⟨U, hU⟩ : ∃ U, U = shU x y := ⟨_, rfl⟩
  have hU0 : (0 : Int) ∈ U := by rw [hU]; exact shU_sub (by simp [addU])
  have hUl : U.length ≤ roomW := by rw [hU]; exact shU_length hx.1 hy.1
  have hUx : ∀ e : Nat, Part e x → (e : Int) ∈ U := fun e he => by rw [hU]; exact shU_sub (addU_part (.inl he))
  have hUy : ∀ e : Nat, Part e y → (e : Int) ∈ U := fun e he => by rw [hU]; exact shU_sub (addU_part (.inr he))
  have hUx1 : x ∈ U := by rw [hU]; exact shU_sub (by simp [addU])
  have hUy1 : y ∈ U := by rw [hU]; exact shU_sub (by simp [addU])
  have hUs : ∀ e ∈ exps x, 0 ≤ (e : Int) + y → (e : Int) + y ∈ U := fun e he _ => by rw [hU]; exact List.mem_append.2 (.inr (List.mem_map.2 ⟨e, he, rfl⟩))
  have hN : ∀ e ∈ exps x, ∀ p, SumAt (form (e : Int) ++ form y) p → NextIn U p := fun e he p hp => by rw [hU]; exact shU_next hx.1 hy.1 he hp
  have hle : ∀ e ∈ exps x, (form (e : Int)).length ≤ 300 := fun e he => hx.1.2.1 e (.here he)
  clear hU
  obtain ⟨p, rfl⟩ := hx.ptr
  obtain ⟨q, rfl⟩ := hy.ptr
  obtain ⟨W2, hW2⟩ : ∃ W2, W2 = ((w.alloc (.cells #[.pointer p] 30)).alloc (.cells #[.pointer q] 30)).alloc (.cells #[.pointer none] 30) := ⟨_, rfl⟩
  have s2 : W2.heap.size = w.heap.size + 1 + 1 + 1 := by rw [hW2]; simp
  have b2 : Below w.heap.size w W2 := by rw [hW2]; exact (((Below.refl _ _).alloc (Nat.le_refl _) _).alloc (by simp) _).alloc (by simp; omega) _
  have x0 := blk_alloc_old (blk_alloc_old (blk_alloc w (.cells #[.pointer p] 30)) (.cells #[.pointer q] 30)) (.cells #[.pointer none] 30)
  have x1 := blk_alloc_old (blk_alloc (w.alloc (.cells #[.pointer p] 30)) (.cells #[.pointer q] 30)) (.cells #[.pointer none] 30)
  have x2 := blk_alloc ((w.alloc (.cells #[.pointer p] 30)).alloc (.cells #[.pointer q] 30)) (.cells #[.pointer none] 30)
  simp only [World.size_alloc] at x1 x2
  rw [← hW2] at x0 x1 x2
  have hnw := newWorld_any (w := W2) (U := U) hU0 hUl
  rw [hW2] at hnw
  have HNW := Sealed.mk hnw; clear hnw
  have HU := Sealed.mk (And.intro hUx (And.intro hUy (And.intro hUx1 (And.intro hUy1 hN)))); clear hU0 hUl hUx hUy hUx1 hUy1 hN
  have HUS := Sealed.mk (And.intro hUs hle); clear hUs hle
  have HO2 := Sealed.mk x2; clear x2
  have H := Sealed.mk (And.intro hx (And.intro hy (And.intro s2 (And.intro b2 (And.intro x0 (And.intro x1 hW2)))))); clear hx hy s2 b2 x0 x1 hW2
  go_enter Try.func25, Try.ntmps25
  go_upto_region 4 with (first
    | (go_at_call 52; go_must (refine HNW.out.mono ?_; rintro e w3 ⟨b, rfl, hi3, hb3, hM3⟩; rw [← H.out.2.2.2.2.2.2] at hb3 hM3; have f0 : w3.cell? ⟨w.heap.size, 0, none⟩ = some (.pointer p) := (cell_of_blk ((hb3.block _ (lt_of_blk H.out.2.2.2.2.1)).trans H.out.2.2.2.2.1) 0).trans rfl; have z1 := (hb3.block _ (lt_of_blk H.out.2.2.2.2.2.1)).trans H.out.2.2.2.2.2.1; have z2 := (hb3.block _ (lt_of_blk HO2.out)).trans HO2.out; have b03 : Below w.heap.size w w3 := below_ext H.out.2.2.2.1 (Ext.of_below (M := noB) hb3) (fun _ h => h.elim); have hM : ∀ k, b.M k → w.heap.size + 1 + 1 + 1 ≤ k := fun k hk => (by have := hM3 k hk; have := H.out.2.2.1; omega); have ht := wtake_any hi3 H.out.1 b03 (fun k hk => by have := hM k hk; omega) HU.out.1 HU.out.2.2.1; have HT := Sealed.mk ht; clear ht; have H3 := Sealed.mk (And.intro hi3 (And.intro b03 (And.intro hM (And.intro z1 z2)))); clear hi3 b03 hM z1 z2 hb3 hM3))
    | (go_at_call 69; go_must (first
      | (refine HT.out.mono ?_; rintro e w4 ⟨vs1, b1, rfl, hin1, hs1, -⟩; have hM := H3.out.2.2.1; have z1 := hs1.ext.get H3.out.2.2.2.1 (fun hm => by have := hM _ hm; omega); have z2 := hs1.ext.get H3.out.2.2.2.2 (fun hm => by have := hM _ hm; omega); have f1 : w4.cell? ⟨w.heap.size + 1, 0, none⟩ = some (.pointer q) := (cell_of_blk z1 0).trans rfl; have b04 : Below w.heap.size w w4 := below_ext H3.out.2.1 hs1.ext (fun k hk => by have := hM k hk; omega); have hM1 : ∀ k, b1.M k → w.heap.size ≤ k := news_ge hs1 (fun k hk => by have := hM k hk; omega) H3.out.2.1.size; have ht := wtake_any hs1.inv H.out.2.1 b04 hM1 HU.out.2.1 HU.out.2.2.2.1; rw [hs1.p] at ht; have HT2 := Sealed.mk ht; clear ht; have H4 := Sealed.mk (And.intro hin1 (And.intro hs1 (And.intro b04 (And.intro hM1 z2)))); clear hin1 hs1 b04 hM1 z1 z2 hM HT)
      | (refine HT2.out.mono ?_; rintro e w5 ⟨vs2, b2, rfl, hin2, hs2, -⟩; have HS2 := Sealed.mk (And.intro hin2 hs2); clear hin2 hs2))))
  obtain ⟨hin1, hs1, b04, hM1, z24⟩ := H4.out
  obtain ⟨hin2, hs2⟩ := HS2.out
  have hn1 : ∀ k, b1.M k → w.heap.size + 1 + 1 + 1 ≤ k := fun k hk => by
    rcases hs1.news k hk with h | h
    · exact H3.out.2.2.1 k h
    · have := lt_of_blk H3.out.2.2.2.2; omega
  have hn2 : ∀ k, b2.M k → w.heap.size + 1 + 1 + 1 ≤ k := fun k hk => by
    rcases hs2.news k hk with h | h
    · exact hn1 k h
    · have := lt_of_blk z24; omega
  have z25 := hs2.ext.get z24 (fun hm => by have := hn1 _ hm; omega)
  have b05 := below_ext b04 hs2.ext hM1
  have ep : b2.p = b.p := hs2.p.trans hs1.p
  have hi : vs2[vs1.idxOf x]? = some x := by rw [← idxOf_prefix hs2.pre hin1]; exact idxOf_get (hs2.pre.subset hin1)
  have hxin := hs2.pre.subset hin1
  have hinv := hs2.inv
  obtain ⟨nv, hnv⟩ : ∃ nv, nv = vs2.length := ⟨_, rfl⟩
  generalize vs1.idxOf x = i at hi ⊢
  have hil : i < nv := by rw [hnv]; exact (List.getElem?_eq_some_iff.1 hi).1
  obtain ⟨cap, cur, f1, f2, f3, f4, f5, f6⟩ := hinv.forms
  obtain ⟨va, g1, t1, o1⟩ := f6 i x hi
  have c0 : w5.cell? ⟨b.p, 0, none⟩ = some (.slice (some ⟨b2.f, 0, none⟩) nv cap) := by rw [← ep, hnv]; exact (cell_of_blk f1 0).trans rfl
  have c1 : w5.cell? ⟨b2.f, i, none⟩ = some va := (cell_of_blk f2 i).trans g1
  have hsh := shifted_any hinv t1 (hinv.cl.cov hxin) hin2 H.out.1.1.1 H.out.2.1.1.1 HUS.out.2 HUS.out.1 HU.out.2.2.2.2
  rw [ep] at hsh
  have HSH := Sealed.mk hsh; clear hsh
  obtain ⟨aa, na, ca, eva⟩ := t1.slice
  subst eva
  have H5 := Sealed.mk (And.intro hinv (And.intro hn2 (And.intro z25 (And.intro b05 ep)))); clear hinv hn1 hn2 z25 b05 ep hxin hin1 hs1 b04 hM1 z24 hs2 hi hnv f1 f2 f3 f4 f5 f6 g1 t1 o1
  have hiz : (0 : Int) ≤ (i : Int) := by omega
  obtain ⟨nx, hnx⟩ : ∃ nx, nx = (form x).length := ⟨_, rfl⟩
  have HNX := Sealed.mk hnx; clear hnx
  by_cases hw : Whole x y
  · have HW := Sealed.mk hw; clear hw
    go_wp2_with (first
      | (go_at_call 70; go_must (refine HSH.out.mono ?_; intro e8 w8 h8; obtain ⟨vs3, b3, a8, c8, rfl, hs8, -, ho8, hc8, hf8, hl8⟩ := h8.yes HW.out; have hgv := give_any hs8.inv (TL.of_own (by rw [hl8]; exact ho8) (by have := H.out.1.1.1; omega)) hc8; rw [hs8.p, H5.out.2.2.2.2] at hgv; rw [← HNX.out] at hgv ⊢; have HGV := Sealed.mk hgv; have HS8 := Sealed.mk hs8; clear hgv ho8 hc8 hs8 hf8 hl8 h8))
      | (go_at_call 56; go_must (refine HGV.out.mono ?_; rintro e9 w9 h9; obtain ⟨pp, er, rfl, hi9, hx9, hres⟩ := h9.told; have hz9 : w9.heap[w.heap.size + 1 + 1]? = some (.cells #[.pointer none] 30 (0, 0)) := (put_kept H5.out.2.2.1 (Below.refl _ _) (Below.refl _ _) HS8.out H5.out.2.1 hx9 (by omega)); have v9 : w9.cell? ⟨w.heap.size + 1 + 1, 0, none⟩ = some (.pointer none) := (cell_of_blk hz9 0).trans rfl; have v9' : w9.frozen? ⟨w.heap.size + 1 + 1, 0, none⟩ = false := frozen_of_blk hz9 0; have H9 := Sealed.mk (And.intro hz9 (And.intro hx9 hres)); clear hz9 hx9 hres hi9 h9)))
    obtain ⟨hz9, hx9, hres⟩ := H9.out
    have b9 := put_below H5.out.2.2.2.1 (Below.refl _ _) (Below.refl _ _) HS8.out H5.out.2.1 (by omega) hx9
    have y0 : (w9.setCell ⟨w.heap.size + 1 + 1, 0, none⟩ (.pointer pp)).cell? ⟨w.heap.size + 1 + 1, 0, none⟩ = some (.pointer pp) := by rw [cell_of_blk (blk_setCell hz9 0 _)]; rfl
    refine bodyPost_ret (v := .tuple #[.agg #[.pointer pp], .int .i64 er]) (by simp [results, Try.results25, go_sem, y0]) rfl ⟨pp, er, rfl, b9.setCell (by show w.heap.size ≤ w.heap.size + 1 + 1; omega) _, .inl ⟨HW.out, ?_⟩⟩
    rcases hres with ⟨h1, h2, h3⟩ | h
    · exact .inl ⟨h1, h2, h3.other hz9 ((Ext.refl (fun k => k = w.heap.size + 1 + 1) w9).setCell (p := ⟨w.heap.size + 1 + 1, 0, none⟩) (.inl rfl) _)⟩
    · exact .inr h
  · have HW := Sealed.mk hw; clear hw
    go_wp2_with (go_at_call 70; go_must (refine HSH.out.mono ?_; intro e8 w8 h8; obtain ⟨rfl, vs3, b3, hs8⟩ := h8.no HW.out; have hz8 := hs8.ext.get H5.out.2.2.1 (fun hm => by have := H5.out.2.1 _ hm; omega); have v8 : w8.cell? ⟨w.heap.size + 1 + 1, 0, none⟩ = some (.pointer none) := (cell_of_blk hz8 0).trans rfl; have v8' : w8.frozen? ⟨w.heap.size + 1 + 1, 0, none⟩ = false := frozen_of_blk hz8 0; have H8 := Sealed.mk (And.intro hz8 hs8.ext); clear hz8 hs8 h8))
    have y0 : (w8.setCell ⟨w.heap.size + 1 + 1, 0, none⟩ (.pointer none)).cell? ⟨w.heap.size + 1 + 1, 0, none⟩ = some (.pointer none) := by rw [cell_of_blk (blk_setCell H8.out.1 0 _)]; rfl
    have b8 := below_ext H5.out.2.2.2.1 H8.out.2 (fun k hk => by have := H5.out.2.1 k hk; omega)
    refine bodyPost_ret (v := .tuple #[.agg #[.pointer none], .int .i64 4]) (by simp [results, Try.results25, go_sem, y0]) rfl ⟨none, 4, rfl, b8.setCell (by show w.heap.size ≤ w.heap.size + 1 + 1; omega) _, .inr ⟨HW.out, rfl, rfl⟩⟩
end Go.Proofs.Ytgchfbfgjanaiaa

namespace Go.Proofs.Ytgchfbfgjanaiaa
open Go.RowKit Sr
noncomputable def mulT (x : Int) (l : List T) : List T := l.flatMap fun t => if t.1 then neg (shlL x t.2) else shlL x t.2
theorem mulT_snoc (x : Int) (l : List T) (t : T) : mulT x (l ++ [t]) = mulT x l ++ if t.1 then neg (shlL x t.2) else shlL x t.2 := by simp [mulT]
theorem mulT_length (x : Int) : ∀ l : List T, (mulT x l).length = l.length * wl x
  | [] => by simp [mulT]
  | t :: l => by
    have h := mulT_length x l
    have e : mulT x (t :: l) = (if t.1 then neg (shlL x t.2) else shlL x t.2) ++ mulT x l := rfl
    have e2 : (if t.1 then neg (shlL x t.2) else shlL x t.2).length = wl x := by split <;> simp [neg, shlL, wl]
    rw [e, List.length_append, h, e2, List.length_cons, Nat.add_mul]
    omega
theorem mulT_mem {x : Int} {l : List T} {t : T} (h : t ∈ mulT x l) : ∃ e ∈ exps x, ∃ s ∈ l, t.2 = e + s.2 := by
  unfold mulT at h
  obtain ⟨s, hs, ht⟩ := List.mem_flatMap.1 h
  have key : ∀ u ∈ shlL x s.2, ∃ e ∈ exps x, u.2 = e + s.2 := fun u hu => by
    obtain ⟨v, hv, rfl⟩ := List.mem_map.1 hu
    exact ⟨v.2, mem_exps.2 ⟨v, hv, rfl⟩, by simp only; omega⟩
  split at ht
  · obtain ⟨u, hu, rfl⟩ := List.mem_map.1 ht
    obtain ⟨e, he, h2⟩ := key u hu
    exact ⟨e, he, s, hs, h2⟩
  · obtain ⟨e, he, h2⟩ := key t ht
    exact ⟨e, he, s, hs, h2⟩
theorem val_mulT (x : Int) : ∀ l : List T, val (mulT x l) = val l * x
  | [] => by simp [mulT, val]
  | t :: l => by
    have h := val_mulT x l
    have e : mulT x (t :: l) = (if t.1 then neg (shlL x t.2) else shlL x t.2) ++ mulT x l := rfl
    have e1 : val (shlL x t.2) = 2 ^ t.2 * x := shl_nat x t.2
    rw [e, val_append, h]
    simp only [val, tv, Int.add_mul]
    split
    · rw [val_neg, e1, Int.neg_mul]
    · rw [e1]
noncomputable def mulP (x y : Int) : List Nat := ((exps x).flatMap fun e => (exps y).map fun f => e + f) ++ (((plist x ++ plist y).flatMap fun g => (List.range 17).map fun k => g + k) ++ List.range 700)
theorem mulP_sum {x y : Int} {e f : Nat} (he : e ∈ exps x) (hf : f ∈ exps y) : e + f ∈ mulP x y :=
  List.mem_append.2 (.inl (List.mem_flatMap.2 ⟨e, he, List.mem_map.2 ⟨f, hf, rfl⟩⟩))
theorem mulP_near {x y : Int} {g k : Nat} (hg : Part g x ∨ Part g y) (hk : k ≤ 16) : g + k ∈ mulP x y :=
  List.mem_append.2 (.inr (List.mem_append.2 (.inl (List.mem_flatMap.2 ⟨g, List.mem_append.2 (hg.imp mem_plist.2 mem_plist.2), List.mem_map.2 ⟨k, List.mem_range.2 (by omega), rfl⟩⟩))))
theorem mulP_low {x y : Int} {n : Nat} (h : n < 700) : n ∈ mulP x y := List.mem_append.2 (.inr (List.mem_append.2 (.inr (List.mem_range.2 h))))
theorem mulP_part {x y : Int} {g : Nat} (hg : Part g x ∨ Part g y) : g ∈ mulP x y := mulP_near (k := 0) hg (by omega)
theorem flat_length_nat {α : Type} (f : α → List Nat) (n : Nat) : ∀ l : List α, (∀ a ∈ l, (f a).length ≤ n) → (l.flatMap f).length ≤ l.length * n
  | [], _ => by simp
  | a :: l, h => by
    have h1 := flat_length_nat f n l fun b hb => h b (by simp [hb])
    have h2 := h a (by simp)
    simp only [List.flatMap_cons, List.length_append, List.length_cons, Nat.add_mul]
    omega
theorem mulP_length {x y : Int} (hx : Allowed x) (hy : Allowed y) : (mulP x y).length ≤ 200000 := by
  have h1 := flat_length_nat (fun e => (exps y).map fun f => e + f) 300 (exps x) (fun _ _ => by have := hy.1; simpa [exps] using this)
  have h2 := flat_length_nat (fun g => (List.range 17).map fun k => g + k) 17 (plist x ++ plist y) (fun _ _ => by simp)
  have h3 := plist_len hx
  have h4 := plist_len hy
  have h5 : (exps x).length ≤ 300 := by have := hx.1; simpa [exps] using this
  have h6 : (exps x).length * 300 ≤ 300 * 300 := Nat.mul_le_mul_right _ h5
  unfold mulP
  simp only [List.length_append, List.length_range] at *
  omega
theorem mulP_hull {x y : Int} (hx : Allowed x) (hy : Allowed y) : Hull (mulP x y) := by
  have hpl : ∀ g, Part g x ∨ Part g y → wl (g : Int) ≤ 300 := fun g hg => by
    rcases hg with hg | hg
    · exact hx.2.1 g hg
    · exact hy.2.1 g hg
  constructor
  · intro p hp f hf
    rcases List.mem_append.1 hp with hp | hp
    · obtain ⟨e, he, hp⟩ := List.mem_flatMap.1 hp
      obtain ⟨e2, he2, rfl⟩ := List.mem_map.1 hp
      have hv : val (form (e : Int) ++ form (e2 : Int)) = ((e + e2 : Nat) : Int) := by rw [val_append, val_form, val_form]; omega
      rw [← hv] at hf
      have h1 := hpl e (.inl (.here he))
      have h2 := hpl e2 (.inr (.here he2))
      obtain ⟨t, ht, k, hk, rfl⟩ := exps_val (by unfold wl at h1 h2; rw [List.length_append]; omega) hf
      refine mulP_near ?_ hk
      rcases List.mem_append.1 ht with ht | ht
      · exact .inl ((Part.here he).up (mem_exps.2 ⟨t, ht, rfl⟩))
      · exact .inr ((Part.here he2).up (mem_exps.2 ⟨t, ht, rfl⟩))
    · rcases List.mem_append.1 hp with hp | hp
      · obtain ⟨g, hg, hp⟩ := List.mem_flatMap.1 hp
        obtain ⟨k, hk, rfl⟩ := List.mem_map.1 hp
        have hg' : Part g x ∨ Part g y := (List.mem_append.1 hg).imp mem_plist.1 mem_plist.1
        rw [Int.natCast_add] at hf
        rcases exps_addn (g : Int) k f hf with h | h
        · exact mulP_part (hg'.imp (·.up h) (·.up h))
        · have := hpl g hg'
          have := List.mem_range.1 hk
          exact mulP_low (by omega)
      · have h1 := List.mem_range.1 hp
        have h2 := exps_lt hf
        exact mulP_low (by simp at h2; omega)
  · intro p hp
    rcases List.mem_append.1 hp with hp | hp
    · obtain ⟨e, he, hp⟩ := List.mem_flatMap.1 hp
      obtain ⟨e2, he2, rfl⟩ := List.mem_map.1 hp
      have h1 := hpl e (.inl (.here he))
      have h2 := hpl e2 (.inr (.here he2))
      have h3 := wl_add (e : Int) (e2 : Int)
      rw [Int.natCast_add]
      omega
    · rcases List.mem_append.1 hp with hp | hp
      · obtain ⟨g, hg, hp⟩ := List.mem_flatMap.1 hp
        obtain ⟨k, hk, rfl⟩ := List.mem_map.1 hp
        have h1 := hpl g ((List.mem_append.1 hg).imp mem_plist.1 mem_plist.1)
        have h2 := wl_addn (g : Int) k
        have := List.mem_range.1 hk
        rw [Int.natCast_add]
        omega
      · have h1 := List.mem_range.1 hp
        have := form_length_nat p
        unfold wl
        omega
noncomputable def mulU (x y : Int) : List Int := 0 :: x :: y :: covU (mulP x y)
theorem mulU_length {x y : Int} (hx : Allowed x) (hy : Allowed y) : (mulU x y).length ≤ roomW := by
  have h1 := covU_length (mulP x y)
  have h2 := mulP_length hx hy
  unfold mulU roomW
  simp only [List.length_cons]
  omega
theorem mulU_cov {x y z : Int} (h : z ∈ covU (mulP x y)) : z ∈ mulU x y := by simp [mulU, h]
theorem mulU_two {x y : Int} (hx : Allowed x) (hy : Allowed y) {e f : Nat} (he : e ∈ exps x) (hf : f ∈ exps y) {p : Nat} (hp : SumAt (form (e : Int) ++ form (f : Int)) p) : NextIn (mulU x y) p :=
  hull_sum (mulP_hull hx hy) (fun _ h => mulU_cov h) (fun t ht => by
    rcases List.mem_append.1 ht with h | h
    · exact mulP_part (.inl ((Part.here he).up (mem_exps.2 ⟨t, h, rfl⟩)))
    · exact mulP_part (.inr ((Part.here hf).up (mem_exps.2 ⟨t, h, rfl⟩)))) hp
theorem mulU_all {x y : Int} (hx : Allowed x) (hy : Allowed y) {p : Nat} (hp : SumAt (mulT x (form y)) p) : NextIn (mulU x y) p :=
  hull_sum (mulP_hull hx hy) (fun _ h => mulU_cov h) (fun t ht => by
    obtain ⟨e, he, s, hs, h⟩ := mulT_mem ht
    rw [h]
    exact mulP_sum he (mem_exps.2 ⟨s, hs, rfl⟩)) hp
theorem ap_TLn {ops : Array Oper} {rest : List Oper} {o : Oper} {a : Act} {Q : Exit → Act → World → Prop} {W : World} {B n : Nat} {v xv : Value} {xs : List Value} {l : List (Bool × Nat)} (s x : Operand) (hgd : o.guard = none)
    (ho : o.op = .call { callee := .builtin .append, args := #[s, x], argTypes := #[96, 96] }) (hs : a.eval s = v) (hown : W.ownsRow B 98 2 v n xs) (hx : a.eval x = xv) (hl : TL W xv l) (hn : n ≤ 200000) (hB : B ≤ W.heap.size)
    (h : ∀ v' w', w'.ownsRow B 98 2 v' (n + l.length) (xs ++ tcells l) → W.grownBy w' v.ownBlock → NewOr W v v' → wpList Try.prog ops Q rest (a.put o.dst v') w') : wpList Try.prog ops Q (o :: rest) a W := by
  obtain ⟨h1, h0, aa, c, rfl, h2, h3⟩ := hl
  by_cases hl0 : l = []
  · subst hl0
    obtain ⟨A, c', rfl⟩ := own_slice hown
    have hc : n ≤ c' := by
      rcases hown.2 with ⟨e, h0⟩ | ⟨g, cap, cur, e, _, _, hh, _⟩
      · obtain ⟨-, -, rfl⟩ := Value.slice.inj e; omega
      · obtain ⟨-, -, rfl⟩ := Value.slice.inj e; exact hh
    exact ap_none el_term s x hgd ho hs hc hx (h _ _ (by simpa [tcells] using hown) ⟨rfl, rfl, rfl, Nat.le_refl _, fun _ _ _ => rfl⟩ (.inl rfl))
  · obtain ⟨b, off, rfl, hr⟩ := h3 hl0
    exact ap_blk el_term s x hgd ho hs hown hx (tcells_length l) hr.reads (tcells_one l) (by omega) hB h
theorem OI.more {U : List Int} {w0 wr w' : World} {b0 b1 : WB} {vs0 vs1 : List Int} {out out' : Value} {o l : List T} (h : OI U w0 b0 vs0 out wr vs1 b1 o.reverse) (hg : wr.grownBy w' out.ownBlock) (hn : NewOr wr out out') (hl : ∀ t ∈ l, (t.2 : Int) ∈ vs1)
    (hown : w'.ownsRow w0.heap.size 98 2 out' (o.length + l.length) (tcells (encL vs1 o) ++ tcells (encL vs1 l))) : OI U w0 b0 vs0 out' w' vs1 b1 (o ++ l).reverse := by
  refine h.write ⟨hg.os, hg.tape, hg.output, hg.size, fun q hq hn => hg.block q hq fun e => hn e.symm⟩ hn ?_ ?_
  · intro t ht
    rcases List.mem_append.1 (List.mem_reverse.1 ht) with ht | ht
    · exact h.emitted t (List.mem_reverse.2 ht)
    · exact hl t ht
  · rw [List.reverse_reverse, List.length_reverse, List.length_append]
    simpa [encL, tcells_append] using hown
theorem negT_encL (vs : List Int) (l : List T) : negT (encL vs l) = encL vs (neg l) := by simp [negT, encL, neg]
theorem enc_shl {vs : List Int} {x : Int} {f : Nat} : enc vs (shl x f) = encL vs (shlL x f) := by rw [← encL_form, form_shl (whole_nat x f)]
theorem cov_shl {vs : List Int} {x : Int} {f : Nat} (h : Cov vs (shl x f)) : ∀ t ∈ shlL x f, (t.2 : Int) ∈ vs := fun t ht => h t (by rw [form_shl (whole_nat x f)]; exact ht)
end Go.Proofs.Ytgchfbfgjanaiaa

namespace Go.Proofs.Ytgchfbfgjanaiaa
open Go.RowKit Sr
def MulOut (w : World) (x y : Int) (e : Ending) (w' : World) : Prop :=
  ∃ p er, e = .returned (.tuple #[.agg #[.pointer p], .int .i64 er]) ∧ Below w.heap.size w w' ∧
    ((wl x * wl y ≤ 10000 ∧ ((Allowed (y * x) ∧ er = 0 ∧ NumIs w' (.agg #[.pointer p]) (y * x)) ∨ (¬ Allowed (y * x) ∧ p = none ∧ er = 5))) ∨ (¬ wl x * wl y ≤ 10000 ∧ p = none ∧ er = 5))
set_option maxRecDepth 100000 in
set_option maxHeartbeats 4000000 in
theorem Mul_any {w : World} {u v : Value} {x y : Int} (hx : NumIs w u x) (hy : NumIs w v y) : Calls Try.prog 34 #[u, v] w (MulOut w x y) := by
  obtain ⟨U, hU⟩ : ∃ U, U = mulU x y := ⟨_, rfl⟩
  have hU0 : (0 : Int) ∈ U := by rw [hU]; simp [mulU]
  have hUl : U.length ≤ roomW := by rw [hU]; exact mulU_length hx.1 hy.1
  have hUx : ∀ e : Nat, Part e x → (e : Int) ∈ U := fun e he => by rw [hU]; exact mulU_cov (covU_mem (mulP_part (.inl he)))
  have hUy : ∀ e : Nat, Part e y → (e : Int) ∈ U := fun e he => by rw [hU]; exact mulU_cov (covU_mem (mulP_part (.inr he)))
  have hUx1 : x ∈ U := by rw [hU]; simp [mulU]
  have hUy1 : y ∈ U := by rw [hU]; simp [mulU]
  have hUs : ∀ e ∈ exps x, ∀ f ∈ exps y, (e : Int) + (f : Int) ∈ U := fun e he f hf => by rw [hU]; exact mulU_cov (by rw [← Int.natCast_add]; exact covU_mem (mulP_sum he hf))
  have hN : ∀ e ∈ exps x, ∀ f ∈ exps y, ∀ p, SumAt (form (e : Int) ++ form (f : Int)) p → NextIn U p := fun e he f hf p hp => by rw [hU]; exact mulU_two hx.1 hy.1 he hf hp
  have hNm : ∀ p, SumAt (mulT x (form y)) p → NextIn U p := fun p hp => by rw [hU]; exact mulU_all hx.1 hy.1 hp
  clear hU
  obtain ⟨p, rfl⟩ := hx.ptr
  obtain ⟨q, rfl⟩ := hy.ptr
  obtain ⟨W2, hW2⟩ : ∃ W2, W2 = ((w.alloc (.cells #[.pointer p] 30)).alloc (.cells #[.pointer q] 30)).alloc (.cells #[.pointer none] 30) := ⟨_, rfl⟩
  have s2 : W2.heap.size = w.heap.size + 1 + 1 + 1 := by rw [hW2]; simp
  have b2 : Below w.heap.size w W2 := by rw [hW2]; exact (((Below.refl _ _).alloc (Nat.le_refl _) _).alloc (by simp) _).alloc (by simp; omega) _
  have x0 := blk_alloc_old (blk_alloc_old (blk_alloc w (.cells #[.pointer p] 30)) (.cells #[.pointer q] 30)) (.cells #[.pointer none] 30)
  have x1 := blk_alloc_old (blk_alloc (w.alloc (.cells #[.pointer p] 30)) (.cells #[.pointer q] 30)) (.cells #[.pointer none] 30)
  have x2 := blk_alloc ((w.alloc (.cells #[.pointer p] 30)).alloc (.cells #[.pointer q] 30)) (.cells #[.pointer none] 30)
  simp only [World.size_alloc] at x1 x2
  rw [← hW2] at x0 x1 x2
  have hnw := newWorld_any (w := W2) (U := U) hU0 hUl
  rw [hW2] at hnw
  have HNW := Sealed.mk hnw; clear hnw
  have HU0 := Sealed.mk (And.intro hU0 hUl)
  have HU := Sealed.mk (And.intro hUx (And.intro hUy (And.intro hUx1 (And.intro hUy1 hN)))); clear hU0 hUl hUx hUy hUx1 hUy1 hN
  have HUS := Sealed.mk (And.intro hUs hNm); clear hUs hNm
  have HO2 := Sealed.mk x2; clear x2
  have H := Sealed.mk (And.intro hx (And.intro hy (And.intro s2 (And.intro b2 (And.intro x0 (And.intro x1 hW2)))))); clear hx hy s2 b2 x0 x1 hW2
  go_enter Try.func34, Try.ntmps34
  go_upto_region 1 with fail
  rw [← H.out.2.2.2.2.2.2]
  obtain ⟨nx, hnx⟩ : ∃ nx, nx = wl x := ⟨_, rfl⟩
  obtain ⟨ny, hny⟩ : ∃ ny, ny = wl y := ⟨_, rfl⟩
  have hnx3 : nx ≤ 300 := by rw [hnx]; exact H.out.1.1.1
  have hny3 : ny ≤ 300 := by rw [hny]; exact H.out.2.1.1.1
  have hmul : nx * ny ≤ 300 * 300 := Nat.mul_le_mul hnx3 hny3
  have hself : ∀ {u : Value} {z : Int} {n : Nat}, NumIs w u z → n = wl z → ∀ W, Below W2.heap.size W2 W → Calls Try.prog 66 #[u] W fun e w' => ∃ a c, e = .returned (.slice a n c) ∧ Below W2.heap.size W2 w' := fun {u z n} hz hn W hb => by
    have hb0 : Below w.heap.size w W := H.out.2.2.2.1.trans ⟨hb.os, hb.tape, hb.output, hb.size, fun q hq => hb.block q (by have := H.out.2.2.2.1.size; omega)⟩
    refine (self_at hz hb0).mono ?_
    rintro e w' ⟨v, rfl, hl, hb'⟩
    obtain ⟨a, m, c, rfl⟩ := hl.slice
    have : m = n := by rw [hl.cells.1, hn]; simp [enc, wl]
    subst this
    exact ⟨a, c, rfl, hb.trans ⟨hb'.os, hb'.tape, hb'.output, hb'.size, fun q hq => hb'.block q (by have := hb.size; omega)⟩⟩
  have hsx := hself H.out.1 hnx
  have hsy := hself H.out.2.1 hny
  have hks : ∀ W, Below W2.heap.size W2 W → W.cell? ⟨w.heap.size, 0, none⟩ = some (.pointer p) ∧ W.cell? ⟨w.heap.size + 1, 0, none⟩ = some (.pointer q) := fun W hb =>
    ⟨(cell_of_blk ((hb.block _ (lt_of_blk H.out.2.2.2.2.1)).trans H.out.2.2.2.2.1) 0).trans rfl, (cell_of_blk ((hb.block _ (lt_of_blk H.out.2.2.2.2.2.1)).trans H.out.2.2.2.2.2.1) 0).trans rfl⟩
  have hb2d : Below W2.heap.size W2 W2.drew := ⟨rfl, rfl, rfl, Nat.le_refl _, fun _ _ => rfl⟩
  have HS := Sealed.mk (And.intro hsx hsy); clear hsx hsy hself
  have HKS := Sealed.mk hks; clear hks
  have HB2 := Sealed.mk hb2d; clear hb2d
  have HNXY := Sealed.mk (And.intro hnx (And.intro hny (And.intro hnx3 (And.intro hny3 hmul)))); clear hnx hny hmul hnx3 hny3
  go_cut [21] (fun v21 wx => Below W2.heap.size W2 wx ∧ v21 = .bool (decide (10000 < nx * ny)))
  case first =>
    have hw1 : IntKind.i64.wrap ((nx : Int) * (ny : Int)) = ((nx * ny : Nat) : Int) := by
      have h5 := HNXY.out.2.2.2.2
      rw [← Int.natCast_mul, IntKind.wrap_i64]; omega
    go_region_held3 (fun W => W.cell? ⟨w.heap.size, 0, none⟩ = some (.pointer p) ∧ W.cell? ⟨w.heap.size + 1, 0, none⟩ = some (.pointer q))
      (first | exact HKS.out _ HB2.out | exact HKS.out _ HBA.out | exact HKS.out _ HBB.out)
      ((go_at_call 66; go_must (first
          | (with_reducible refine (HS.out.1 _ ?hb).mono ?_; (case hb => first | exact HB2.out | exact HBA.out | exact HBB.out); rintro eA wA ⟨aA, cA, rfl, hbA⟩; have HBA := Sealed.mk hbA; clear hbA)
          | (with_reducible refine (HS.out.2 _ ?hb).mono ?_; (case hb => first | exact HB2.out | exact HBA.out | exact HBB.out); rintro eB wB ⟨aB, cB, rfl, hbB⟩; have HBB := Sealed.mk hbB; clear hbB))))
    all_goals
      go_wp2_with fail
      go_meet
      first
        | exact ⟨HBB.out, by congr 1; apply decide_eq_decide.2; omega⟩
        | exact ⟨HBA.out, by congr 1; apply decide_eq_decide.2; omega⟩
  case rest =>
    obtain ⟨hbc, rfl⟩ := hcut
    have HBC := Sealed.mk hbc; clear hbc
    by_cases hbig : 10000 < nx * ny
    · have hd : decide (10000 < nx * ny) = true := by simp [hbig]
      rw [hd]
      have hbc := HBC.out
      have hzc := (hbc.block _ (lt_of_blk HO2.out)).trans HO2.out
      have v8 : wc.cell? ⟨w.heap.size + 1 + 1, 0, none⟩ = some (.pointer none) := (cell_of_blk hzc 0).trans rfl
      have v8' : wc.frozen? ⟨w.heap.size + 1 + 1, 0, none⟩ = false := frozen_of_blk hzc 0
      have HZC := Sealed.mk (And.intro hzc hbig); clear hzc hbig hbc hd
      go_wp2_with fail
      have y0 : (wc.setCell ⟨w.heap.size + 1 + 1, 0, none⟩ (.pointer none)).cell? ⟨w.heap.size + 1 + 1, 0, none⟩ = some (.pointer none) := by rw [cell_of_blk (blk_setCell HZC.out.1 0 _)]; rfl
      have b8 : Below w.heap.size w wc := below_ext H.out.2.2.2.1 (Ext.of_below (M := noB) HBC.out) (fun _ h => h.elim)
      refine bodyPost_ret (v := .tuple #[.agg #[.pointer none], .int .i64 5]) (by simp [results, Try.results34, go_sem, y0]) rfl ⟨none, 5, rfl, b8.setCell (by show w.heap.size ≤ w.heap.size + 1 + 1; omega) _, .inr ⟨by rw [← HNXY.out.1, ← HNXY.out.2.1]; have := HZC.out.2; omega, rfl, rfl⟩⟩
    · have hd : decide (10000 < nx * ny) = false := by simp only [hbig, decide_false]
      rw [hd]
      clear hd
      have HNB := Sealed.mk hbig; clear hbig
      have hbc := HBC.out
      have sc : w.heap.size + 1 + 1 + 1 ≤ wc.heap.size := by have := hbc.size; have := H.out.2.2.1; omega
      have b2 : Below w.heap.size w wc := below_ext H.out.2.2.2.1 (Ext.of_below (M := noB) hbc) (fun _ h => h.elim)
      have x0 := (hbc.block _ (lt_of_blk H.out.2.2.2.2.1)).trans H.out.2.2.2.2.1
      have x1 := (hbc.block _ (lt_of_blk H.out.2.2.2.2.2.1)).trans H.out.2.2.2.2.2.1
      have x2 := (hbc.block _ (lt_of_blk HO2.out)).trans HO2.out
      have hxx := H.out.1
      have hyy := H.out.2.1
      have hnw := newWorld_any (w := wc) (U := U) HU0.out.1 HU0.out.2
      have hc0 : wc.cell? ⟨w.heap.size, 0, none⟩ = some (.pointer p) := (cell_of_blk x0 0).trans rfl
      clear H HO2 HBC HNW HS HKS HB2 hbc
      have HNW := Sealed.mk hnw; clear hnw
      have HO2 := Sealed.mk x2; clear x2
      have H := Sealed.mk (And.intro hxx (And.intro hyy (And.intro sc (And.intro b2 (And.intro x0 (And.intro x1 True.intro)))))); clear hxx hyy sc b2 x0 x1
      go_upto_region 7 with (first
        | (go_at_call 52; go_must (refine HNW.out.mono ?_; rintro e w3 ⟨b, rfl, hi3, hb3, hM3⟩; have f0 : w3.cell? ⟨w.heap.size, 0, none⟩ = some (.pointer p) := (cell_of_blk ((hb3.block _ (lt_of_blk H.out.2.2.2.2.1)).trans H.out.2.2.2.2.1) 0).trans rfl; have z1 := (hb3.block _ (lt_of_blk H.out.2.2.2.2.2.1)).trans H.out.2.2.2.2.2.1; have z2 := (hb3.block _ (lt_of_blk HO2.out)).trans HO2.out; have b03 : Below w.heap.size w w3 := below_ext H.out.2.2.2.1 (Ext.of_below (M := noB) hb3) (fun _ h => h.elim); have hM : ∀ k, b.M k → w.heap.size + 1 + 1 + 1 ≤ k := fun k hk => (by have := hM3 k hk; have := H.out.2.2.1; omega); have ht := wtake_any hi3 H.out.1 b03 (fun k hk => by have := hM k hk; omega) HU.out.1 HU.out.2.2.1; have HT := Sealed.mk ht; clear ht; have H3 := Sealed.mk (And.intro hi3 (And.intro b03 (And.intro hM (And.intro z1 z2)))); clear hi3 b03 hM z1 z2 hb3 hM3))
        | (go_at_call 69; go_must (first
          | (refine HT.out.mono ?_; rintro e w4 ⟨vs1, b1, rfl, hin1, hs1, -⟩; have hM := H3.out.2.2.1; have z1 := hs1.ext.get H3.out.2.2.2.1 (fun hm => by have := hM _ hm; omega); have z2 := hs1.ext.get H3.out.2.2.2.2 (fun hm => by have := hM _ hm; omega); have f1 : w4.cell? ⟨w.heap.size + 1, 0, none⟩ = some (.pointer q) := (cell_of_blk z1 0).trans rfl; have b04 : Below w.heap.size w w4 := below_ext H3.out.2.1 hs1.ext (fun k hk => by have := hM k hk; omega); have hM1 : ∀ k, b1.M k → w.heap.size ≤ k := news_ge hs1 (fun k hk => by have := hM k hk; omega) H3.out.2.1.size; have ht := wtake_any hs1.inv H.out.2.1 b04 hM1 HU.out.2.1 HU.out.2.2.2.1; rw [hs1.p] at ht; have HT2 := Sealed.mk ht; clear ht; have H4 := Sealed.mk (And.intro hin1 (And.intro hs1 (And.intro b04 (And.intro hM1 z2)))); clear hin1 hs1 b04 hM1 z1 z2 hM HT)
          | (refine HT2.out.mono ?_; rintro e w5 ⟨vs2, b2, rfl, hin2, hs2, -⟩; have HS2 := Sealed.mk (And.intro hin2 hs2); clear hin2 hs2))))
      obtain ⟨hin1, hs1, b04, hM1, z24⟩ := H4.out
      obtain ⟨hin2, hs2⟩ := HS2.out
      have hn1 : ∀ k, b1.M k → w.heap.size + 1 + 1 + 1 ≤ k := fun k hk => by
        rcases hs1.news k hk with h | h
        · exact H3.out.2.2.1 k h
        · have := lt_of_blk H3.out.2.2.2.2; omega
      have hn2 : ∀ k, b2.M k → w.heap.size + 1 + 1 + 1 ≤ k := fun k hk => by
        rcases hs2.news k hk with h | h
        · exact hn1 k h
        · have := lt_of_blk z24; omega
      have z25 := hs2.ext.get z24 (fun hm => by have := hn1 _ hm; omega)
      have b05 := below_ext b04 hs2.ext hM1
      have ep : b2.p = b.p := hs2.p.trans hs1.p
      have hi : vs2[vs1.idxOf x]? = some x := by rw [← idxOf_prefix hs2.pre hin1]; exact idxOf_get (hs2.pre.subset hin1)
      have hxin := hs2.pre.subset hin1
      have hinv := hs2.inv
      obtain ⟨j, hj⟩ : ∃ j, j = vs2.idxOf y := ⟨_, rfl⟩
      rw [← hj]
      have hj' : vs2[j]? = some y := by rw [hj]; exact idxOf_get hin2
      obtain ⟨nv, hnv⟩ : ∃ nv, nv = vs2.length := ⟨_, rfl⟩
      obtain ⟨i, hie⟩ : ∃ i, i = vs1.idxOf x := ⟨_, rfl⟩
      rw [← hie] at hi ⊢
      have hil : i < nv := by rw [hnv]; exact (List.getElem?_eq_some_iff.1 hi).1
      have hjl : j < nv := by rw [hnv]; exact (List.getElem?_eq_some_iff.1 hj').1
      obtain ⟨cap, cur, f1, f2, f3, f4, f5, f6⟩ := hinv.forms
      obtain ⟨vb, g2, t2, o2⟩ := f6 j y hj'
      have c0 : w5.cell? ⟨b.p, 0, none⟩ = some (.slice (some ⟨b2.f, 0, none⟩) nv cap) := by rw [← ep, hnv]; exact (cell_of_blk f1 0).trans rfl
      have c1 : w5.cell? ⟨b2.f, j, none⟩ = some vb := (cell_of_blk f2 j).trans g2
      obtain ⟨ab, nb, cb, evb⟩ := t2.slice
      subst evb
      have hnb : nb = ny := by rw [t2.cells.1, HNXY.out.2.1]; simp [enc, wl]
      subst hnb
      have hnb3 : nb ≤ 300 := HNXY.out.2.2.2.1
      have H5 := Sealed.mk (And.intro hinv (And.intro hn2 (And.intro z25 (And.intro b05 (And.intro ep (And.intro hi (And.intro hin2 (And.intro hxin (And.intro t2 o2))))))))); clear hinv hn1 hn2 z25 b05 ep hxin hin1 hs1 b04 hM1 z24 hs2 hi hj hj' hnv f1 f2 f3 f4 f5 f6 g2 t2 o2 hin2 H3 H4 HS2 HT2 hie f0 hc0
      have hiz : (0 : Int) ≤ (i : Int) := by omega
      have hjz : (0 : Int) ≤ (j : Int) := by omega
      go_wp2_with fail
      go_loopg [9, 38] nb (fun jj av iv wr => ∃ (k : Nat) (vs3 : List Int) (b3 : WB) (oa : Option Addr) (oc : Nat), jj = nb - k ∧ k ≤ nb ∧ iv = .int .i64 (k : Int) ∧ av = .slice oa (k * nx) oc ∧ OI U w5 b2 vs2 (.slice oa (k * nx) oc) wr vs3 b3 (mulT x ((form y).take k)).reverse)
      case atStart =>
        refine ⟨0, vs2, b2, none, 0, rfl, Nat.zero_le _, rfl, by simp, ?_⟩
        have := OI.start H5.out.1
        simpa [mulT] using this
      case round =>
        obtain ⟨k, vs3, b3, oa, oc, rfl, hk, rfl, rfl, hoi⟩ := hrel
        by_cases hkl : k < nb
        · obtain ⟨⟨m, f⟩, ht⟩ : ∃ t, (form y)[k]? = some t := ⟨_, List.getElem?_eq_getElem (by have := HNXY.out.2.1; unfold wl at this; omega)⟩
          have hfy : f ∈ exps y := mem_exps.2 ⟨_, List.mem_of_getElem? ht, rfl⟩
          have hst := hoi.step
          have htr : TL wr (.slice ab nb cb) (enc vs2 y) := H5.out.2.2.2.2.2.2.2.2.1.ext hst.ext (fun q hq => H5.out.2.2.2.2.2.2.2.2.2 q hq)
          have hte : (enc vs2 y)[k]? = some (m, vs2.idxOf (f : Int)) := by simp [enc, ht]
          obtain ⟨-, -, -, hcell⟩ := htr.cells
          obtain ⟨bb, oo, rfl, h1, h2⟩ := hcell k _ hte
          have hfv2 : (f : Int) ∈ vs2 := H5.out.1.cl.cov H5.out.2.2.2.2.2.2.1 _ (List.mem_of_getElem? ht)
          have hfv : (f : Int) ∈ vs3 := hst.pre.subset hfv2
          obtain ⟨jf, hjf⟩ : ∃ jf, jf = vs2.idxOf (f : Int) := ⟨_, rfl⟩
          have hjf3 : jf = vs3.idxOf (f : Int) := by rw [hjf, idxOf_prefix hst.pre hfv2]
          simp only at h1 h2
          rw [← hjf] at h2
          obtain ⟨W1, hW1⟩ : ∃ W1, W1 = wr.alloc (.cells #[.bool m, .int .i64 (jf : Int)] 98) := ⟨_, rfl⟩
          have bw1 : Below wr.heap.size wr W1 := by rw [hW1]; exact (Below.refl _ _).alloc (Nat.le_refl _) _
          have bw1d : Below wr.heap.size wr W1.drew := ⟨bw1.os, bw1.tape, bw1.output, bw1.size, bw1.block⟩
          have kb : W1.drew.heap[wr.heap.size]? = some (.cells #[.bool m, .int .i64 (jf : Int)] 98 (0, 0)) := by rw [hW1]; exact blk_alloc _ _
          have k1 : W1.drew.cell? ⟨wr.heap.size, 1, none⟩ = some (.int .i64 (jf : Int)) := (cell_of_blk kb 1).trans rfl
          have hinv1 := hst.inv.below bw1d
          have hi3 : vs3[i]? = some x := getElem?_prefix hst.pre H5.out.2.2.2.2.2.1
          obtain ⟨nv3, hnv3⟩ : ∃ nv3, nv3 = vs3.length := ⟨_, rfl⟩
          have hil3 : i < nv3 := by rw [hnv3]; exact (List.getElem?_eq_some_iff.1 hi3).1
          obtain ⟨cap3, cur3, f1, f2, f3, f4, f5, f6⟩ := hinv1.forms
          obtain ⟨va, g1, t1, o1⟩ := f6 i _ hi3
          have hp3 : b3.p = b.p := hst.p.trans H5.out.2.2.2.2.1
          have c0 : W1.drew.cell? ⟨b.p, 0, none⟩ = some (.slice (some ⟨b3.f, 0, none⟩) nv3 cap3) := by rw [← hp3, hnv3]; exact (cell_of_blk f1 0).trans rfl
          have c1 : W1.drew.cell? ⟨b3.f, i, none⟩ = some va := (cell_of_blk f2 i).trans g1
          have hxv3 : x ∈ vs3 := List.mem_of_getElem? hi3
          have hle : ∀ e ∈ exps x, (form (e : Int)).length ≤ 300 := fun e he => H.out.1.1.2.1 e (.here he)
          have hsh := shifted_any hinv1 t1 (hinv1.cl.cov hxv3) hfv H.out.1.1.1 (H.out.2.1.1.2.1 f (.here hfy)) hle (fun e he _ => HUS.out.1 e he f hfy) (fun e he => HU.out.2.2.2.2 e he f hfy)
          rw [hp3, ← hjf3] at hsh
          obtain ⟨aa, na, ca, eva⟩ := t1.slice
          subst eva
          have HSH := Sealed.mk hsh; clear hsh
          have hlen3 : (form x).length = nx := HNXY.out.1.symm
          have HL3 := Sealed.mk hlen3; clear hlen3
          have HR := Sealed.mk (And.intro hoi (And.intro ht (And.intro bw1d kb)))
          clear hoi ht bw1 bw1d kb hst htr hte hcell hfv2 hfv hjf hjf3 hinv1 hi3 hnv3 f1 f2 f3 f4 f5 f6 g1 t1 o1 hxv3 hle hp3 hfy
          go_upto_region 10 with fail
          rw [← hW1]
          have HW1 := Sealed.mk hW1; clear hW1
          go_cut [12] (fun v12 wx => ∃ vs4 b4 a c, WStep U wr wx b3 b4 vs3 vs4 ∧ FStep noB wr wx b3 b4 vs3 vs4 ∧ v12 = .slice a nx c ∧ TL wx (.slice a nx c) (encL vs4 (shlL x f)) ∧ (∀ t ∈ shlL x f, (t.2 : Int) ∈ vs4) ∧ wx.cell? ⟨wr.heap.size, 0, none⟩ = some (.bool m))
          case first =>
            go_region_law
              (go_simp; go_at_call 70; go_must (refine HSH.out.mono ?_; intro e8 w8 h8; obtain ⟨vs4, b4, a8, c8, rfl, hs8, hf8, ho8, hc8, hfr8, hl8⟩ := h8.yes (whole_nat x f); rw [HL3.out] at ho8 hfr8 hl8 ⊢; have kbox := (cell_of_blk (hs8.ext.get HR.out.2.2.2 (fun hm => by have := HR.out.1.step.inv.lt _ hm; omega)) 0).trans rfl; rw [enc_shl] at ho8 hl8; have htl8 := TL.of_own (by rw [hl8]; exact ho8) (by rw [hl8]; have := HNXY.out.2.2.1; omega); have hst := (WStep.kept HR.out.1.step.inv HR.out.2.2.1).trans hs8; have hft := (FStep.same (X := noB) (Ext.of_below (M := noB) HR.out.2.2.1) (HR.out.1.step.inv.lt _ (.inr (.inl rfl))) (fun e => e)).trans hf8 HR.out.2.2.1.size (fun _ e => e.elim); have HS8 := Sealed.mk (And.intro hst (And.intro hft (And.intro htl8 (And.intro (cov_shl hc8) kbox)))); clear hs8 hf8 ho8 hc8 hfr8 hl8 htl8 h8 hst hft); try go_simp)
            all_goals
              go_wp2_with fail
              go_meet
              exact ⟨vs4, b4, a8, c8, HS8.out.1, HS8.out.2.1, rfl, HS8.out.2.2.1, HS8.out.2.2.2.1, HS8.out.2.2.2.2⟩
          case rest =>
            obtain ⟨vs4, b4, a8, c8, hst8, hft8, rfl, htl8, hmem8, kbox⟩ := hcut
            have hoi8 := HR.out.1.move hst8 hft8
            have hmul : (k + 1) * nx = k * nx + nx := Nat.succ_mul k nx
            have hkn : k * nx ≤ 300 * 300 := Nat.mul_le_mul (by have := HNXY.out.2.2.2.1; omega) HNXY.out.2.2.1
            have hlm : (mulT x ((form y).take k)).length = k * nx := by rw [mulT_length, HNXY.out.1, List.length_take, Nat.min_eq_left (by have := HNXY.out.2.1; unfold wl at this; omega)]
            have hown8 := hoi8.own
            rw [List.reverse_reverse, List.length_reverse, hlm] at hown8
            have hl8 : (encL vs4 (shlL x f)).length = nx := by rw [encL_length, HNXY.out.1]; simp [shlL, wl]
            have hng := negated_any htl8
            rw [hl8, negT_encL] at hng
            have HNG := Sealed.mk hng; clear hng
            have he9 : (encL vs4 (neg (shlL x f))).length = nx := by rw [← negT_encL]; simp [negT, hl8]
            have HE9 := Sealed.mk he9; clear he9
            have HO8 := Sealed.mk (And.intro hoi8 (And.intro hown8 (And.intro htl8 (And.intro hmem8 (And.intro hmul (And.intro hlm hl8)))))); clear hoi8 hown8 htl8 hmem8 hst8 hft8 hmul hlm hl8 h1 h2 k1 c0 c1
            have HKN := Sealed.mk hkn; clear hkn
            generalize hK : k * nx = K at HO8 HKN
            have HK := Sealed.mk hK; clear hK
            cases m
            · go_wp2_with (at_builtin; go_must (refine ap_TLn (.tmp 60) (.tmp 61) rfl rfl rfl HO8.out.2.1 rfl HO8.out.2.2.1 (by have := HKN.out; omega) (HO8.out.1.step.ext.size) ?_))
              intro v9 w9 ho9 hg9 hn9
              rw [HO8.out.2.2.2.2.2.2] at ho9
              obtain ⟨a9, c9, rfl⟩ := own_slice ho9
              have HO9 := Sealed.mk (And.intro ho9 (And.intro hg9 hn9)); clear ho9 hg9 hn9
              go_wp2_with fail
              go_roundg (nb - (k + 1))
              case measure => omega
              case rel =>
                refine ⟨k + 1, vs4, b4, a9, c9, rfl, by omega, by push_cast; rfl, by rw [HO8.out.2.2.2.2.1], ?_⟩
                rw [HO8.out.2.2.2.2.1, take_snoc HR.out.2.1, mulT_snoc]
                refine HO8.out.1.more HO9.out.2.1 HO9.out.2.2 HO8.out.2.2.2.1 ?_
                have e : (shlL x f).length = nx := by have := HO8.out.2.2.2.2.2.2; rwa [encL_length] at this
                simp only [Bool.false_eq_true, if_false]
                rw [HO8.out.2.2.2.2.2.1, e]
                exact HO9.out.1
            · go_wp2_with (first
                | (go_at_call 77; go_must (refine HNG.out.mono ?_; rintro e9 w9 ⟨a9, c9, rfl, hon9, hb9⟩; have htl9 : TL w9 (.slice a9 nx c9) (encL vs4 (neg (shlL x f))) := TL.of_own (by rw [HE9.out]; exact hon9) (by rw [HE9.out]; have h2 := HNXY.out.2.2.1; omega); have hoi9 := HO8.out.1.move (WStep.kept HO8.out.1.step.inv hb9) (FStep.same (X := noB) (Ext.of_below (M := noB) hb9) (HO8.out.1.step.inv.lt _ (.inr (.inl rfl))) (fun e => e)); have hown9 := hoi9.own; rw [List.reverse_reverse, List.length_reverse, HO8.out.2.2.2.2.2.1] at hown9; have H9 := Sealed.mk (And.intro htl9 (And.intro hoi9 hown9)); clear htl9 hoi9 hown9 hon9 hb9))
                | (at_builtin; go_must (refine ap_TLn (.tmp 60) (.tmp 61) rfl rfl rfl H9.out.2.2 rfl H9.out.1 (by have := HKN.out; omega) (H9.out.2.1.step.ext.size) ?_)))
              intro v10 w10 ho10 hg10 hn10
              have e := HE9.out
              rw [e] at ho10
              obtain ⟨a10, c10, rfl⟩ := own_slice ho10
              have HO10 := Sealed.mk (And.intro ho10 (And.intro hg10 (And.intro hn10 e))); clear ho10 hg10 hn10 e
              go_wp2_with fail
              go_roundg (nb - (k + 1))
              case measure => omega
              case rel =>
                refine ⟨k + 1, vs4, b4, a10, c10, rfl, by omega, by push_cast; rfl, by rw [HO8.out.2.2.2.2.1], ?_⟩
                rw [HO8.out.2.2.2.2.1, take_snoc HR.out.2.1, mulT_snoc]
                simp only [if_true]
                refine H9.out.2.1.more HO10.out.2.1 HO10.out.2.2.1 (fun t ht => ?_) ?_
                · obtain ⟨s, hs, rfl⟩ := List.mem_map.1 ht
                  exact HO8.out.2.2.2.1 s hs
                · have e := HO10.out.2.2.2
                  rw [encL_length] at e
                  rw [HO8.out.2.2.2.2.2.1, e]
                  exact HO10.out.1
        · have hkk : k = (form y).length := by have := HNXY.out.2.1; unfold wl at this; omega
          have hoi2 := hoi
          rw [hkk, List.take_length] at hoi2
          have hlm : (mulT x (form y)).length = nb * nx := by rw [mulT_length, HNXY.out.1, HNXY.out.2.1]; rfl
          have hkx : k * nx = nb * nx := by rw [hkk, HNXY.out.2.1]; rfl
          have hkx2 : (form y).length * nx = nb * nx := by rw [← hkk]; exact hkx
          rw [hkx2] at hoi2
          have hown := hoi2.own
          rw [List.reverse_reverse, List.length_reverse, hlm] at hown
          have hle : nb * nx ≤ 10000 := by have := HNB.out; rw [Nat.mul_comm] at this; omega
          have hel : (encL vs3 (mulT x (form y))).length = nb * nx := by rw [encL_length, hlm]
          have htl : TL wr (.slice oa (nb * nx) oc) (encL vs3 (mulT x (form y))) := TL.of_own (by rw [hel]; exact hown) (by rw [hel]; omega)
          have hsm := sum_any hoi2.step.inv htl (by rw [hlm]; omega) (fun t ht => hoi2.emitted t (List.mem_reverse.2 ht)) (fun q hq => (hoi2.free q hq).1) (fun p hp => next_any (HUS.out.2 p hp))
          rw [val_mulT, val_form, hoi2.step.p, H5.out.2.2.2.2.1] at hsm
          rw [hkx]
          have HSM := Sealed.mk hsm; clear hsm
          have HOI := Sealed.mk hoi2.step; clear hoi hoi2 hown htl hel hle hlm hkx hkx2 hkk
          generalize nb * nx = NN at HSM
          go_wp2_with (first
            | (go_at_call 73; go_must (refine HSM.out.mono ?_; rintro e8 w8 ⟨vs4, b4, a8, c8, rfl, ho8, hl8, hc8, hs8, -, -⟩; have hgv := give_any hs8.inv (TL.of_own ho8 hl8) hc8; rw [hs8.p, HOI.out.p, H5.out.2.2.2.2.1] at hgv; have hs58 := HOI.out.trans hs8; generalize (enc vs4 (y * x)).length = n8 at hgv ⊢; have HGV := Sealed.mk hgv; have HS8 := Sealed.mk hs58; clear hgv ho8 hc8 hs8 hs58 hl8))
            | (go_at_call 56; go_must (refine HGV.out.mono ?_; rintro e9 w9 h9; obtain ⟨pp, er, rfl, hi9, hx9, hres⟩ := h9.told; have hz9 : w9.heap[w.heap.size + 1 + 1]? = some (.cells #[.pointer none] 30 (0, 0)) := (put_kept H5.out.2.2.1 (Below.refl _ _) (Below.refl _ _) HS8.out H5.out.2.1 hx9 (by omega)); have v9 : w9.cell? ⟨w.heap.size + 1 + 1, 0, none⟩ = some (.pointer none) := (cell_of_blk hz9 0).trans rfl; have v9' : w9.frozen? ⟨w.heap.size + 1 + 1, 0, none⟩ = false := frozen_of_blk hz9 0; have H9 := Sealed.mk (And.intro hz9 (And.intro hx9 hres)); clear hz9 hx9 hres hi9 h9)))
          obtain ⟨hz9, hx9, hres⟩ := H9.out
          have b9 := put_below H5.out.2.2.2.1 (Below.refl _ _) (Below.refl _ _) HS8.out H5.out.2.1 (by omega) hx9
          have y0 : (w9.setCell ⟨w.heap.size + 1 + 1, 0, none⟩ (.pointer pp)).cell? ⟨w.heap.size + 1 + 1, 0, none⟩ = some (.pointer pp) := by rw [cell_of_blk (blk_setCell hz9 0 _)]; rfl
          refine bodyPost_ret (v := .tuple #[.agg #[.pointer pp], .int .i64 er]) (by simp [results, Try.results34, go_sem, y0]) rfl ⟨pp, er, rfl, b9.setCell (by show w.heap.size ≤ w.heap.size + 1 + 1; omega) _, .inl ⟨by rw [← HNXY.out.1, ← HNXY.out.2.1]; have := HNB.out; omega, ?_⟩⟩
          rcases hres with ⟨h1, h2, h3⟩ | h
          · exact .inl ⟨h1, h2, h3.other hz9 ((Ext.refl (fun k => k = w.heap.size + 1 + 1) w9).setCell (p := ⟨w.heap.size + 1 + 1, 0, none⟩) (.inl rfl) _)⟩
          · exact .inr h
end Go.Proofs.Ytgchfbfgjanaiaa

namespace Go.Proofs.Ytgchfbfgjanaiaa
open Go.RowKit Sr
def TermsAt (w : World) (v : Value) (l : List (Bool × Int)) : Prop :=
  l.length ≤ 100000 ∧ (∀ b, v.ownBlock = some b → b < w.heap.size) ∧ ∃ a c, v = .slice a l.length c ∧ l.length ≤ c ∧
    (l ≠ [] → ∃ b o, a = some ⟨b, o, none⟩ ∧ ∀ (i : Nat) (t : Bool × Int), l[i]? = some t → ∃ p, w.cell? ⟨b, o + i * 2, none⟩ = some (.bool t.1) ∧ w.cell? ⟨b, o + i * 2 + 1, none⟩ = some (.pointer p) ∧ NumIs w (.agg #[.pointer p]) t.2)
theorem TermsAt.below {w w1 : World} {v : Value} {l : List (Bool × Int)} (h : TermsAt w v l) (e : Below w.heap.size w w1) : TermsAt w1 v l := by
  obtain ⟨h1, h0, a, c, rfl, h2, h3⟩ := h
  refine ⟨h1, fun b hb => Nat.lt_of_lt_of_le (h0 b hb) e.size, a, c, rfl, h2, fun hne => ?_⟩
  obtain ⟨b, o, rfl, h4⟩ := h3 hne
  refine ⟨b, o, rfl, fun i t ht => ?_⟩
  obtain ⟨p, q1, q2, q3⟩ := h4 i t ht
  exact ⟨p, (cell_same (e.block b (h0 b rfl)) _).trans q1, (cell_same (e.block b (h0 b rfl)) _).trans q2, q3.below e⟩
def termsT (l : List (Bool × Int)) : List T := l.map fun t => (t.1, t.2.toNat)
def termsV (l : List (Bool × Int)) : Int := val (termsT l)
theorem termsT_take {l : List (Bool × Int)} {k : Nat} {t : Bool × Int} (h : l[k]? = some t) : (termsT (l.take k)).length = k := by
  obtain ⟨hk, _⟩ := List.getElem?_eq_some_iff.1 h
  simp [termsT]; omega
theorem termsT_succ {l : List (Bool × Int)} {k : Nat} {t : Bool × Int} (h : l[k]? = some t) : termsT (l.take (k + 1)) = termsT (l.take k) ++ [(t.1, t.2.toNat)] := by
  rw [take_snoc h]; simp [termsT]
noncomputable def sumP (l : List (Bool × Int)) : List Nat := l.flatMap fun t => t.2.toNat :: plist t.2
theorem sumP_hull {l : List (Bool × Int)} (ha : ∀ t ∈ l, Allowed t.2) (h0 : ∀ t ∈ l, 0 ≤ t.2) : Hull (sumP l) where
  up p hp f hf := by
    obtain ⟨t, ht, hp⟩ := List.mem_flatMap.1 hp
    refine List.mem_flatMap.2 ⟨t, ht, List.mem_cons_of_mem _ ?_⟩
    rcases List.mem_cons.1 hp with rfl | hp
    · have := h0 t ht
      rw [show ((t.2.toNat : Nat) : Int) = t.2 by omega] at hf
      exact mem_plist.2 (.here hf)
    · exact mem_plist.2 ((mem_plist.1 hp).up hf)
  len p hp := by
    obtain ⟨t, ht, hp⟩ := List.mem_flatMap.1 hp
    have hat := ha t ht
    rcases List.mem_cons.1 hp with rfl | hp
    · have := h0 t ht
      rw [show ((t.2.toNat : Nat) : Int) = t.2 by omega]
      have := hat.1
      unfold wl
      omega
    · have := hat.2.1 p (mem_plist.1 hp)
      unfold wl
      omega
noncomputable def sumU (l : List (Bool × Int)) : List Int := 0 :: covU (sumP l)
theorem sumU_length {l : List (Bool × Int)} (ha : ∀ t ∈ l, Allowed t.2) (hl : l.length ≤ 1000) : (sumU l).length ≤ roomW := by
  have h1 := flat_length_nat (fun t : Bool × Int => t.2.toNat :: plist t.2) 2000 l (fun t ht => by have := plist_len (ha t ht); simp; omega)
  have h2 := covU_length (sumP l)
  have h3 : l.length * 2000 ≤ 1000 * 2000 := Nat.mul_le_mul_right _ hl
  unfold sumU roomW
  unfold sumP at h2 ⊢
  simp only [List.length_cons]
  omega
theorem sumU_self {l : List (Bool × Int)} {t : Bool × Int} (ht : t ∈ l) (h0 : 0 ≤ t.2) : t.2 ∈ sumU l := by
  have : ((t.2.toNat : Nat) : Int) ∈ covU (sumP l) := covU_mem (List.mem_flatMap.2 ⟨t, ht, by simp⟩)
  rw [show ((t.2.toNat : Nat) : Int) = t.2 by omega] at this
  exact List.mem_cons_of_mem _ this
theorem sumU_part {l : List (Bool × Int)} {t : Bool × Int} (ht : t ∈ l) {e : Nat} (he : Part e t.2) : (e : Int) ∈ sumU l :=
  List.mem_cons_of_mem _ (covU_mem (List.mem_flatMap.2 ⟨t, ht, List.mem_cons_of_mem _ (mem_plist.2 he)⟩))
theorem sumU_next {l : List (Bool × Int)} (ha : ∀ t ∈ l, Allowed t.2) (h0 : ∀ t ∈ l, 0 ≤ t.2) {p : Nat} (hp : SumAt (termsT l) p) : NextIn (sumU l) p :=
  hull_sum (sumP_hull ha h0) (fun _ h => List.mem_cons_of_mem _ h) (fun t ht => by
    obtain ⟨s, hs, rfl⟩ := List.mem_map.1 ht
    exact List.mem_flatMap.2 ⟨s, hs, by simp⟩) hp
theorem step_ap_term {P : Program} {ops : Array Oper} {o : Oper} {a : Act} {K : Act → World → Prop} {Q : Exit → Act → World → Prop} {X : Prop} {t e bytes : Nat} {z : Value} (E : ElemT P t e 2 z bytes) {W : World} {B n b : Nat} {v u1 u2 : Value} {xs : List Value} (s x : Operand) (hgd : o.guard = none)
    (ho : o.op = .call { callee := .builtin .append, args := #[s, x], argTypes := #[t, t] }) (hs : a.eval s = v) (hown : W.ownsRow B e 2 v n xs)
    (hx : a.eval x = .slice (some ⟨b, 0, none⟩) 1 1) (hb : b = W.heap.size) (h1 : u1.oneCell' = true) (h2 : u2.oneCell' = true)
    (hn : n + 1 ≤ 1000000000) (hB : B ≤ W.heap.size)
    (h : ∀ g cap w', w'.ownsRow B e 2 (.slice (some ⟨g, 0, none⟩) (n + 1) cap) (n + 1) (xs ++ [u1, u2]) → (W.alloc (.cells #[u1, u2] e)).grownBy w' v.ownBlock → NewOr (W.alloc (.cells #[u1, u2] e)) v (.slice (some ⟨g, 0, none⟩) (n + 1) cap) → K (a.put o.dst (.slice (some ⟨g, 0, none⟩) (n + 1) cap)) w') :
    if Region.wanted o (yielded ops a.tmps) = true then Oper.wp P o a (W.alloc (.cells #[u1, u2] e)) K Q else X := by
  subst hb
  obtain ⟨i0, hi, hzz⟩ := Option.map_eq_some_iff.1 E.info
  simp only [Prod.mk.injEq] at hzz
  obtain ⟨hz0, hz1, hz2⟩ := hzz
  have hsm := E.small
  have hmul : (n + 1) * bytes ≤ 1000000000 * 64 := Nat.mul_le_mul hn E.small
  refine step_append_lies _ hgd s x t ho B e i0 z 2 bytes E.ht hi hz0 hz1 hz2 E.hz E.pos v n xs hs (hown.alloc _) ⟨W.heap.size, 0, none⟩ 1 1 [u1, u2] hx (by simp) (fun j u' hu => ?_) (by simp [h1, h2]) (by omega) (by unfold maxLen; omega) (by omega) (by simp; omega) _ rfl fun g cap w' q1 q2 q3 q4 => h g cap w' q1 q2 ?_
  · have : (⟨W.heap.size, 0, none⟩ : Addr).add j = ⟨W.heap.size, j, none⟩ := by unfold Addr.add; split <;> simp_all
    rw [this, cell_of_blk (blk_alloc W _)]
    simpa using hu
  · rcases q3 with q3 | q3
    · exact .inl (by rw [q3]; rfl)
    · exact .inr ⟨g, rfl, by rw [q3]; exact Nat.le_refl _⟩
end Go.Proofs.Ytgchfbfgjanaiaa
