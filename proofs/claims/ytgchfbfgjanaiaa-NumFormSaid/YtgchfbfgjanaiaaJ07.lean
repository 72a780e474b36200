/-
  num.world.cmp: plain
  num.world.cmp
  slices.SortFunc of places, by a world's order: what the walks want of the world
  num.world.take, whole
  num.world.take: the walk
  (num.N).Cmp
  (num.N).Weight
-/
import Derived.Test.YtgchfbfgjanaiaaJ06
import Derived.Test.YtgchfbfgjanaiaaJ03
import Derived.Shelf.SlSortCmp.Insertion
import Derived.BigRegion
import Derived.StillTailTactics
import Derived.Deep.DeepMust
import Derived.Sort.AtCall
import Derived.Test.YtgchfbfgjanaiaaJ04
import Derived.Deep.RegionLaw
import Derived.Deep.DeepCutAuto
set_option linter.unusedSimpArgs false
set_option linter.unusedVariables false
namespace Go.Proofs.Ytgchfbfgjanaiaa
open Go.RowKit Sr
theorem cmpL_first : ∀ (a b : List T) (i : Nat), a.take i = b.take i → a[i]? ≠ b[i]? →
    cmpL a b = decideT (a.getD i (false, 0)) (b.getD i (false, 0)) (decide (i < a.length)) (decide (i < b.length)) (sg (((a.getD i (false, 0)).2 : Int) - ((b.getD i (false, 0)).2 : Int)))
  | [], [], i, _, h => by simp at h
  | [], t :: b, 0, _, _ => by simp [cmpL, decideT]
  | [], t :: b, i + 1, h, _ => by simp at h
  | s :: a, [], 0, _, _ => by simp [cmpL, decideT]
  | s :: a, [], i + 1, h, _ => by simp at h
  | s :: a, t :: b, 0, _, h => by
    have hst : s ≠ t := by simpa using h
    rw [cmpL, if_neg hst]
    by_cases hm : s.1 = t.1 <;> simp [decideT, hm]
  | s :: a, t :: b, i + 1, h, h2 => by
    simp only [List.take_succ_cons, List.cons.injEq] at h
    obtain ⟨rfl, h⟩ := h
    have := cmpL_first a b i h (by simpa using h2)
    rw [cmpL, if_pos rfl, this]
    simp
theorem enc_get (vs : List Int) (x : Int) (i : Nat) : (enc vs x)[i]? = ((form x)[i]?).map fun t => (t.1, vs.idxOf (t.2 : Int)) := by simp [enc]
theorem sg_abs (z : Int) : -1 ≤ sg z ∧ sg z ≤ 1 := by unfold sg; split <;> (try split) <;> omega
theorem decide_enc {vs : List Int} {x y : Int} (hx : Cov vs x) (hy : Cov vs y) {i : Nat} (h1 : (enc vs x).take i = (enc vs y).take i) (h2 : (enc vs x)[i]? ≠ (enc vs y)[i]?) :
    ∃ c, (-1 ≤ c ∧ c ≤ 1) ∧ sg (x - y) = decideT ((enc vs x).getD i (false, 0)) ((enc vs y).getD i (false, 0)) (decide (i < (enc vs x).length)) (decide (i < (enc vs y).length)) c ∧
      (i < (enc vs x).length → i < (enc vs y).length → ∃ e f : Nat, e ∈ exps x ∧ f ∈ exps y ∧ vs[((enc vs x).getD i (false, 0)).2]? = some (e : Int) ∧ vs[((enc vs y).getD i (false, 0)).2]? = some (f : Int) ∧ c = sg ((e : Int) - f)) := by
  have e1 : (form x).take i = (form y).take i := by
    refine map_enc_inj (v := vs) (fun t ht => hx t (List.mem_of_mem_take ht)) ?_
    simpa [enc, List.map_take] using h1
  have e2 : (form x)[i]? ≠ (form y)[i]? := fun e => h2 (by rw [enc_get, enc_get, e])
  have hc := cmpL_first _ _ i e1 e2
  obtain ⟨n, hn⟩ := form_form x
  obtain ⟨m, hm⟩ := form_form y
  rw [cmpL_sg _ _ n m hn hm, val_form, val_form] at hc
  have l1 : (enc vs x).length = (form x).length := by simp [enc]
  have l2 : (enc vs y).length = (form y).length := by simp [enc]
  refine ⟨sg ((((form x).getD i (false, 0)).2 : Int) - (((form y).getD i (false, 0)).2 : Int)), sg_abs _, ?_, ?_⟩
  · rw [hc, l1, l2]
    by_cases hi : i < (form x).length
    · by_cases hj : i < (form y).length
      · simp [enc, List.getD_eq_getElem?_getD, hi, hj, decideT]
      · simp [enc, List.getD_eq_getElem?_getD, hi, hj, decideT]
    · by_cases hj : i < (form y).length
      · simp [enc, List.getD_eq_getElem?_getD, hi, hj, decideT]
      · exact absurd (by rw [List.getElem?_eq_none (Nat.not_lt.1 hi), List.getElem?_eq_none (Nat.not_lt.1 hj)]) e2
  · intro hi hj
    rw [l1] at hi
    rw [l2] at hj
    have m1 : (form x)[i] ∈ form x := List.getElem_mem hi
    have m2 : (form y)[i] ∈ form y := List.getElem_mem hj
    refine ⟨(form x)[i].2, (form y)[i].2, ?_, ?_, ?_, ?_, ?_⟩
    · exact mem_exps.2 ⟨_, m1, rfl⟩
    · exact mem_exps.2 ⟨_, m2, rfl⟩
    · have := idxOf_get (hx _ m1)
      simpa [enc, List.getD_eq_getElem?_getD, hi] using this
    · have := idxOf_get (hy _ m2)
      simpa [enc, List.getD_eq_getElem?_getD, hj] using this
    · simp [List.getD_eq_getElem?_getD, hi, hj]
theorem order_done {w w1 : World} {b : WB} {vs U : List Int} (h : WInv w b vs U) {l : List ((Int × Int) × Int)} (hl : KeysApart l)
    (hq : ∀ q ∈ l, ∃ i j : Nat, q.1 = ((i : Int), (j : Int)) ∧ ∃ x y, vs[i]? = some x ∧ vs[j]? = some y ∧ q.2 = sg (x - y))
    {i j : Nat} {x y : Int} (hi : vs[i]? = some x) (hj : vs[j]? = some y)
    (hm : MapIs encPair w1 b.r3 (putK l ((i : Int), (j : Int)) (sg (x - y)))) (hg : w.grownBy w1 (some b.r3)) : CS w w1 b vs U := by
  have hext : Ext (fun k => k = b.r3) w w1 := (Ext.refl _ _).grown hg fun k hk => .inl (Option.some.inj hk).symm
  refine ⟨?_, hext⟩
  obtain ⟨a1, a2, a3, a4, a5, a6, a7, a8, a9, a10⟩ := h.apart
  obtain ⟨cap, cur, f1, f2, f3, f4, f5, f6⟩ := h.forms
  exact {
    cl := h.cl, sub := h.sub, room := h.room, apart := h.apart
    forms := ⟨cap, cur, hext.get f1 a4, hext.get f2 a7, f3, f4, f5, fun i x hx => by
      obtain ⟨v, e1, e2, e3⟩ := f6 i x hx
      exact ⟨v, e1, e2.ext hext fun k hk e => e3 k hk (.inr (.inr (.inr (.inr e)))), e3⟩⟩
    places := h.places.same (hext.block b.r1 h.places.lt a9)
    greater := by
      obtain ⟨l2, g1, g2⟩ := h.greater
      exact ⟨l2, g1.same (hext.block b.r2 g1.lt a10), g2⟩
    order := ⟨_, hm, hl.put _ _, fun q hq' => by
      unfold putK at hq'
      split at hq'
      · obtain ⟨p, hp, e⟩ := List.mem_map.1 hq'
        split at e
        · rename_i hk
          subst e; exact ⟨i, j, hk, x, y, hi, hj, rfl⟩
        · subst e; exact hq _ hp
      · rcases List.mem_append.1 hq' with hp | hp
        · exact hq _ hp
        · simp at hp; subst hp; exact ⟨i, j, rfl, x, y, hi, hj, rfl⟩⟩ }
end Go.Proofs.Ytgchfbfgjanaiaa

namespace Go.Proofs.Ytgchfbfgjanaiaa
open Go.RowKit Sr
theorem lookK_mem {K : Type} [DecidableEq K] {l : List (K × Int)} {k : K} {n : Int} (h : lookK l k = some n) : (k, n) ∈ l := by
  unfold lookK at h
  cases hf : l.find? (fun p => decide (k = p.1)) with
  | none => rw [hf] at h; simp at h
  | some p =>
    rw [hf] at h
    obtain ⟨a, b⟩ := p
    have h1 := List.find?_some hf
    have h2 := List.mem_of_find?_eq_some hf
    simp at h h1
    subst h h1
    exact h2
set_option maxRecDepth 100000 in
set_option maxHeartbeats 4000000 in
theorem cmp_up {U vs : List Int} {b : WB} {i j : Nat} {x y : Int} (hi : vs[i]? = some x) (hj : vs[j]? = some y) (hij : i < j)
    (ih : ∀ (i' j' : Nat) (e f : Nat), e ∈ exps x → f ∈ exps y → vs[i']? = some (e : Int) → vs[j']? = some (f : Int) → ∀ w, WInv w b vs U →
      Calls Try.prog 78 #[.pointer (some ⟨b.p, 0, none⟩), .int .i64 (i' : Int), .int .i64 (j' : Int)] w fun r w' => r = .returned (.int .i64 (sg ((e : Int) - f))) ∧ CS w w' b vs U)
    {w : World} (h : WInv w b vs U) :
    Calls Try.prog 78 #[.pointer (some ⟨b.p, 0, none⟩), .int .i64 (i : Int), .int .i64 (j : Int)] w fun r w' => r = .returned (.int .i64 (sg (x - y))) ∧ CS w w' b vs U := by
  have h1 : ((i : Int) == (j : Int)) = false := by simp; omega
  have h2 : ¬ ((j : Int) < (i : Int)) := by omega
  obtain ⟨l, m1, m2, m3⟩ := h.order
  obtain ⟨W, hW⟩ : ∃ W, W = w.alloc (.cells #[.int .i64 (i : Int), .int .i64 (j : Int)] 143) := ⟨_, rfl⟩
  have hB : Below w.heap.size w W := by rw [hW]; exact (Below.refl _ _).alloc (Nat.le_refl _) _
  have hWi := h.below hB
  obtain ⟨cap, cur, f1, f2, f3, f4, f5, f6⟩ := hWi.forms
  have c0 := cell_of_blk f1 0
  have c3 := cell_of_blk f1 3
  simp only [List.getElem?_toArray, List.getElem?_cons_zero, List.getElem?_cons_succ] at c0 c3
  have hlk : ∀ nq, (Instr.lookup 105 (.map (some b.r3)) (.agg #[.int .i64 (i : Int), .int .i64 (j : Int)]) true).run Try.prog (W.drewN nq) = .ok (.tuple #[.int .i64 ((lookK l ((i : Int), (j : Int))).getD 0), .bool (lookK l ((i : Int), (j : Int))).isSome]) (W.drewN nq) :=
    fun nq => run_lookup_ok kk_pair Try.underlying105 zero_int (w := W.drewN nq) (m1.same (w1 := W.drewN nq) (hB.block b.r3 m1.lt)) ((i : Int), (j : Int))
  have kb : W.heap[w.heap.size]? = some (.cells #[.int .i64 (i : Int), .int .i64 (j : Int)] 143 (0, 0)) := by rw [hW]; exact blk_alloc _ _
  have k0 := cell_of_blk kb 0
  have k1 := cell_of_blk kb 1
  simp only [List.getElem?_toArray, List.getElem?_cons_zero, List.getElem?_cons_succ] at k0 k1
  have hr3 := h.lt b.r3 (.inr (.inr (.inr (.inr rfl))))
  have H := Sealed.mk h; clear h
  have HM := Sealed.mk (And.intro m1 (And.intro m2 m3)); clear m1 m2 m3
  have HW := Sealed.mk hWi; clear hWi
  have HB := Sealed.mk hB; clear hB
  have HI := Sealed.mk (And.intro hi hj); clear hi hj
  have HH := Sealed.mk @ih; clear ih
  cases hl : lookK l ((i : Int), (j : Int)) with
  | some r =>
    rw [hl] at hlk
    simp only [Option.getD_some, Option.isSome_some] at hlk
    have HL := Sealed.mk hl; clear hl
    go_enter Try.func78, Try.ntmps78
    go_wp2_with fail
    rw [← hW]
    clear hW f1 f2 f3 f4 f5 f6 kb
    go_quiet (fail)
    go_wp2
    go_ret
    have e1 : r = sg (x - y) := by
      obtain ⟨i', j', e, x', y', hx', hy', e3⟩ := HM.out.2.2 _ (lookK_mem HL.out)
      simp only [Prod.mk.injEq] at e
      obtain ⟨e1, e2⟩ := e
      obtain rfl : i = i' := by omega
      obtain rfl : j = j' := by omega
      rw [HI.out.1] at hx'
      rw [HI.out.2] at hy'
      obtain rfl := Option.some.inj hx'
      obtain rfl := Option.some.inj hy'
      exact e3
    have hd : WInv (W.drewN nq) b vs U := HW.out.ext (N := noB) ((Ext.refl _ _).drewN _) fun _ hn _ => hn
    exact ⟨by show Ending.returned (.int .i64 r) = _; rw [e1], hd, ((Ext.of_below HB.out).drewN _)⟩
  | none =>
    rw [hl] at hlk
    simp only [Option.getD_none, Option.isSome_none] at hlk
    clear hl
    obtain ⟨v1, g1, t1, o1⟩ := f6 i x HI.out.1
    obtain ⟨v2, g2, t2, o2⟩ := f6 j y HI.out.2
    have d1 : W.cell? ⟨b.f, i, none⟩ = some v1 := by rw [cell_of_blk f2]; exact g1
    have d2 : W.cell? ⟨b.f, j, none⟩ = some v2 := by rw [cell_of_blk f2]; exact g2
    have l1 : i < vs.length := (List.getElem?_eq_some_iff.1 HI.out.1).1
    have l2 : j < vs.length := (List.getElem?_eq_some_iff.1 HI.out.2).1
    have hap := HW.out.apart
    have ht : ∀ w1 : World, CS W w1 b vs U → TL w1 v1 (enc vs x) ∧ TL w1 v2 (enc vs y) := fun w1 k =>
      ⟨t1.ext k.ext fun q hq e => o1 q hq (.inr (.inr (.inr (.inr e)))), t2.ext k.ext fun q hq e => o2 q hq (.inr (.inr (.inr (.inr e))))⟩
    have HT := Sealed.mk ht; clear ht t1 t2 o1 o2 g1 g2
    have hd : ∀ q, (enc vs x).take q = (enc vs y).take q → (enc vs x)[q]? ≠ (enc vs y)[q]? → ∀ w1, WInv w1 b vs U → Calls Try.prog 102 #[.pointer (some ⟨b.p, 0, none⟩), aggT (enc vs x) q, aggT (enc vs y) q, .bool (decide (q < (enc vs x).length)), .bool (decide (q < (enc vs y).length))] w1
        fun e w' => e = .returned (.int .i64 (sg (x - y))) ∧ CS w1 w' b vs U := by
      intro q q1 q2 w1 hw1
      have hx := hw1.cl.cov (List.mem_of_getElem? HI.out.1)
      have hy := hw1.cl.cov (List.mem_of_getElem? HI.out.2)
      obtain ⟨c, hc, e1, e2⟩ := decide_enc hx hy q1 q2
      rw [e1]
      refine differ_any hw1 _ _ _ _ c hc fun b1 b2 w2 hw2 => ?_
      obtain ⟨e, f, r1, r2, r3, r4, rfl⟩ := e2 (by simpa using b1) (by simpa using b2)
      exact HH.out _ _ e f r1 r2 r3 r4 w2 hw2
    have hne : enc vs x ≠ enc vs y := fun e => by
      have hx := HW.out.cl.cov (List.mem_of_getElem? HI.out.1)
      have e1 := enc_inj hx e
      have e2 := idxOf_of HW.out.cl.nodup HI.out.1
      have e3 := idxOf_of HW.out.cl.nodup HI.out.2
      rw [e1] at e2
      omega
    have hcomp : ∀ w1, CS W w1 b vs U → Calls Try.prog 101 #[v1, v2, .func (.func 102) #[.pointer (some ⟨b.p, 0, none⟩)] #[]] w1 fun r w' => r = .returned (.int .i64 (sg (x - y))) ∧ CS w1 w' b vs U := fun w1 k =>
      compared_any k.inv (HT.out w1 k).1 (HT.out w1 k).2 hne hd
    have HCO := Sealed.mk hcomp; clear hcomp hd hne
    have k1' : ∀ w1 w2 : World, (w1.cell? ⟨b.p, 0, none⟩ = some (.slice (some ⟨b.f, 0, none⟩) vs.length cap) ∧ w1.cell? ⟨b.f, i, none⟩ = some v1 ∧ w1.cell? ⟨b.f, j, none⟩ = some v2 ∧ CS W w1 b vs U) → CS w1 w2 b vs U →
        (w2.cell? ⟨b.p, 0, none⟩ = some (.slice (some ⟨b.f, 0, none⟩) vs.length cap) ∧ w2.cell? ⟨b.f, i, none⟩ = some v1 ∧ w2.cell? ⟨b.f, j, none⟩ = some v2 ∧ CS W w2 b vs U) := fun w1 w2 h k =>
      ⟨k.cell h.1 hap.2.2.2.1, k.cell h.2.1 hap.2.2.2.2.2.2.1, k.cell h.2.2.1 hap.2.2.2.2.2.2.1, h.2.2.2.trans k⟩
    have K1 := Sealed.mk k1'; clear k1'
    have HAP := Sealed.mk hap; clear hap
    go_enter Try.func78, Try.ntmps78
    go_wp2_with fail
    rw [← hW]
    clear hW f1 f2 f3 f4 f5 f6 kb
    go_quiet (fail)
    go_wp2_with fail
    obtain ⟨W1, hW1⟩ : ∃ W1, W1 = W.drewN nq := ⟨_, rfl⟩
    have hs1 : CS W W1 b vs U := by
      rw [hW1]
      exact ⟨HW.out.ext (N := noB) ((Ext.refl _ _).drewN _) fun _ hn _ => hn, (Ext.refl _ _).drewN _⟩
    have hself : CS W W1.drew b vs U := hs1.trans ⟨hs1.inv.ext (N := noB) ((Ext.refl _ _).drew) fun _ hn _ => hn, (Ext.refl _ _).drew⟩
    have c0' : W1.cell? ⟨b.p, 0, none⟩ = some (.slice (some ⟨b.f, 0, none⟩) vs.length cap) := by rw [hW1]; exact c0
    have d1' : W1.cell? ⟨b.f, i, none⟩ = some v1 := by rw [hW1]; exact d1
    have d2' : W1.cell? ⟨b.f, j, none⟩ = some v2 := by rw [hW1]; exact d2
    have hs3 : ∀ w', CS W w' b vs U → (w'.cell? ⟨b.p, 3, none⟩ = some (.map (some b.r3)) ∧ w'.cell? ⟨w.heap.size, 0, none⟩ = some (.int .i64 (i : Int)) ∧ w'.cell? ⟨w.heap.size, 1, none⟩ = some (.int .i64 (j : Int))) := fun w' k =>
      ⟨k.cell c3 HAP.out.2.2.2.1, k.cell k0 (by omega), k.cell k1 (by omega)⟩
    have HS3 := Sealed.mk hs3; clear hs3
    rw [← hW1]
    clear hW1 hlk c0 c3 k0 k1 d1 d2
    have HS1 := Sealed.mk hs1; clear hs1
    have HSELF := Sealed.mk hself; clear hself
    go_region_held3 (fun w' => w'.cell? ⟨b.p, 0, none⟩ = some (.slice (some ⟨b.f, 0, none⟩) vs.length cap) ∧ w'.cell? ⟨b.f, i, none⟩ = some v1 ∧ w'.cell? ⟨b.f, j, none⟩ = some v2 ∧ CS W w' b vs U)
      (first | exact ⟨c0', d1', d2', HSELF.out⟩ | exact K1.out _ _ (by assumption) (by assumption))
      (first | (go_at_call 101; go_must (refine (HCO.out _ ?_).mono ?_; exact (by assumption : _ ∧ _ ∧ _ ∧ CS _ _ b vs U).2.2.2; rintro e w1 ⟨rfl, hb⟩)))
    have hcs : CS W w1.drew b vs U := (by assumption : _ ∧ _ ∧ _ ∧ CS W w1 b vs U).2.2.2.trans ⟨hb.inv.ext (N := noB) ((Ext.refl _ _).drew) fun _ hn _ => hn, (Ext.refl _ _).drew⟩
    obtain ⟨e0, e1, e2⟩ := HS3.out _ hcs
    obtain ⟨l', q1, q2, q3⟩ := hcs.inv.order
    have HCS := Sealed.mk hcs; clear hcs
    have HQ := Sealed.mk (And.intro q1 (And.intro q2 q3)); clear q1 q2 q3
    clear hb c0' d1' d2'
    go_wp2_with fail
    refine wp_region_still_tail 6 (by kernel_rfl) (by kernel_rfl) ?_
    simp only [List.take_succ_cons, List.take_zero, List.drop_succ_cons, List.drop_zero]
    repeat still_step
    refine wpStill_nil ?_
    change wpList _ _ _ _ _ w1.drew
    refine wp_update kk_pair Try.underlying105 (.tmp 55) (.tmp 56) (.tmp 57) rfl rfl HQ.out.2.1 (l := l') (r := b.r3) HQ.out.1 ((i : Int), (j : Int)) (sg (x - y)) rfl rfl rfl ?_
    intro w3 hm3 hg3
    have hcs3 := HCS.out.trans (order_done HCS.out.inv HQ.out.2.1 HQ.out.2.2 HI.out.1 HI.out.2 hm3 hg3)
    have HC3 := Sealed.mk hcs3; clear hcs3 hm3 hg3
    go_wp2
    go_ret
    exact ⟨rfl, HC3.out.inv, (Ext.of_below HB.out).trans HC3.out.ext fun _ hk => .inl hk⟩
theorem sg_neg (z : Int) : sg (-z) = -sg z := by unfold sg; split <;> split <;> (try split) <;> (try split) <;> omega
set_option maxRecDepth 100000 in
set_option maxHeartbeats 4000000 in
theorem cmp_down {U vs : List Int} {b : WB} {i j : Nat} {x y : Int} (hij : j < i)
    (hup : ∀ w, WInv w b vs U → Calls Try.prog 78 #[.pointer (some ⟨b.p, 0, none⟩), .int .i64 (j : Int), .int .i64 (i : Int)] w fun r w' => r = .returned (.int .i64 (sg (y - x))) ∧ CS w w' b vs U)
    {w : World} (h : WInv w b vs U) :
    Calls Try.prog 78 #[.pointer (some ⟨b.p, 0, none⟩), .int .i64 (i : Int), .int .i64 (j : Int)] w fun r w' => r = .returned (.int .i64 (sg (x - y))) ∧ CS w w' b vs U := by
  have h1 : ((i : Int) == (j : Int)) = false := by simp; omega
  have h2 : (j : Int) < (i : Int) := by omega
  have H := Sealed.mk h; clear h
  have HU := Sealed.mk hup; clear hup
  go_enter Try.func78, Try.ntmps78
  go_wp2_with (go_at_call 78; go_must (refine (HU.out _ H.out).mono ?_; rintro r w1 ⟨rfl, hcs⟩))
  go_ret
  refine ⟨?_, hcs⟩
  have e1 : wrap64 (-sg (y - x)) = sg (x - y) := by
    rw [show x - y = -(y - x) by omega, sg_neg]
    have := sg_abs (y - x)
    unfold wrap64; omega
  show Ending.returned (.int .i64 (wrap64 (-sg (y - x)))) = _
  rw [e1]
set_option maxRecDepth 100000 in
theorem cmp_same {U vs : List Int} {b : WB} {i : Nat} {w : World} (h : WInv w b vs U) :
    Calls Try.prog 78 #[.pointer (some ⟨b.p, 0, none⟩), .int .i64 (i : Int), .int .i64 (i : Int)] w fun r w' => r = .returned (.int .i64 0) ∧ CS w w' b vs U := by
  have H := Sealed.mk h; clear h
  go_enter Try.func78, Try.ntmps78
  go_wp2
  go_ret
  exact ⟨rfl, CS.refl H.out⟩
theorem cmp_all (n : Nat) : ∀ {U vs : List Int} {b : WB} {i j : Nat} {x y : Int}, x.natAbs + y.natAbs < n → vs[i]? = some x → vs[j]? = some y → ∀ w, WInv w b vs U →
    Calls Try.prog 78 #[.pointer (some ⟨b.p, 0, none⟩), .int .i64 (i : Int), .int .i64 (j : Int)] w fun r w' => r = .returned (.int .i64 (sg (x - y))) ∧ CS w w' b vs U := by
  induction n with
  | zero => intro U vs b i j x y h; omega
  | succ n ih =>
    intro U vs b i j x y hn hi hj w h
    have up : ∀ {i j : Nat} {x y : Int}, x.natAbs + y.natAbs < n + 1 → vs[i]? = some x → vs[j]? = some y → i < j → ∀ w, WInv w b vs U →
        Calls Try.prog 78 #[.pointer (some ⟨b.p, 0, none⟩), .int .i64 (i : Int), .int .i64 (j : Int)] w fun r w' => r = .returned (.int .i64 (sg (x - y))) ∧ CS w w' b vs U := by
      intro i j x y hn hi hj hij w h
      refine cmp_up hi hj hij (fun i' j' e f he hf h1 h2 w hw => ih ?_ h1 h2 w hw) h
      have := exps_lt he
      have := exps_lt hf
      simp only [Int.natAbs_natCast]
      omega
    rcases Nat.lt_trichotomy i j with hij | hij | hij
    · exact up hn hi hj hij w h
    · subst hij
      rw [hi] at hj
      obtain rfl := Option.some.inj hj
      have := cmp_same (i := i) h
      rw [show x - x = 0 by omega]
      exact this
    · exact cmp_down hij (fun w hw => up (by omega) hj hi hij w hw) h
theorem cmp_any {U vs : List Int} {b : WB} {i j : Nat} {x y : Int} (hi : vs[i]? = some x) (hj : vs[j]? = some y) {w : World} (h : WInv w b vs U) :
    Calls Try.prog 78 #[.pointer (some ⟨b.p, 0, none⟩), .int .i64 (i : Int), .int .i64 (j : Int)] w fun r w' => r = .returned (.int .i64 (sg (x - y))) ∧ CS w w' b vs U :=
  cmp_all _ (Nat.lt_succ_self _) hi hj w h
end Go.Proofs.Ytgchfbfgjanaiaa

namespace Go.Proofs.Ytgchfbfgjanaiaa
open Go.RowKit Go.Lib Go.Sort Sr
def encN (n : Nat) : Value := .int .i64 (n : Int)
theorem oneN : OneCell encN := fun _ => rfl
def icells (l : List Nat) : List Value := l.map fun n : Nat => .int .i64 (n : Int)
theorem wpList_gen {P : Program} {ops : Array Oper} {l : List Oper} {a : Act} {w : World} {Q : Exit → Act → World → Prop} (h : ∀ Q' : Exit → Act → World → Prop, Sealed (Q' = Q) → wpList P ops Q' l a w) : wpList P ops Q l a w := h Q ⟨rfl⟩
structure SC where
  w0 : World
  b : WB
  vs : List Int
  U : List Int
  blk : Nat
  B : Nat
  cap : Nat
def SC.cf (X : SC) (x y : Nat) : Int := sg (X.vs.getD x 0 - X.vs.getD y 0)
structure SX (X : SC) (d : Array Nat) (W : World) : Prop where
  inv0 : WInv X.w0 X.b X.vs X.U
  blt : X.blk < X.w0.heap.size
  inv : WInv W X.b X.vs X.U
  ext : Ext (fun k => k = X.b.r3 ∨ k = X.blk) X.w0 W
  free : WFree X.w0 X.b X.vs X.blk
  own : W.ownsRow X.B 3 1 (.slice (some ⟨X.blk, 0, none⟩) d.size X.cap) d.size (icells d.toList)
  lt : ∀ i, i < d.size → d[i]! < X.vs.length
variable {X : SC} {d : Array Nat} {W W' : World}
theorem SX.fnot (h : SX X d W) : ¬ (X.b.f = X.b.r3 ∨ X.b.f = X.blk) := by
  rintro (e | e)
  · exact h.inv0.apart.2.2.2.2.2.2.1 e
  · exact h.free.1 (.inr (.inl e.symm))
theorem SX.freeAt (h : SX X d W) {q : Nat} (hq : X.w0.heap.size ≤ q) : WFree W X.b X.vs q :=
  (h.inv0.fresh hq).same h.ext (h.inv0.lt _ (.inr (.inl rfl))) h.fnot
theorem SX.freeRow (h : SX X d W) : WFree W X.b X.vs X.blk := h.free.same h.ext (h.inv0.lt _ (.inr (.inl rfl))) h.fnot
theorem SX.le (h : SX X d W) : X.w0.heap.size ≤ W.heap.size := h.ext.size
theorem SX.blkW (h : SX X d W) : X.blk < W.heap.size := Nat.lt_of_lt_of_le h.blt h.le
theorem SX.r3ne (h : SX X d W) : X.blk ≠ X.b.r3 := fun e => h.free.1 (.inr (.inr (.inr (.inr e))))
theorem SX.move (h : SX X d W) {N : Nat → Prop} (e : Ext N W W') (hN : ∀ q, N q → X.w0.heap.size ≤ q) : SX X d W' where
  inv0 := h.inv0
  blt := h.blt
  inv := h.inv.extF e fun k hk _ => h.freeAt (hN k hk)
  ext := h.ext.trans e fun k hk => .inr (hN k hk)
  free := h.free
  own := own_ext h.own e fun k hk hn => by have := hN k hn; have := h.blt; have e' : X.blk = k := Option.some.inj hk; omega
  lt := h.lt
theorem SX.drew (h : SX X d W) : SX X d W.drew := h.move (N := noB) ((Ext.refl noB W).drew) fun _ h => h.elim
theorem SX.drewN (h : SX X d W) (n : Nat) : SX X d (W.drewN n) := h.move (N := noB) ((Ext.refl noB W).drewN n) fun _ h => h.elim
theorem SX.alloc (h : SX X d W) (o : Obj) : SX X d (W.alloc o) := h.move (N := noB) ((Ext.refl noB W).alloc o) fun _ h => h.elim
theorem SX.setCell_new (h : SX X d W) (b o : Nat) (v : Value) (hb : X.w0.heap.size ≤ b) : SX X d (W.setCell ⟨b, o, none⟩ v) :=
  h.move (N := fun q => q = b) ((Ext.refl (fun q => q = b) W).setCell (p := ⟨b, o, none⟩) (.inl rfl) v) fun _ e => e ▸ hb
theorem icells_at {d : Array Nat} {i : Nat} (hi : i < d.size) : (icells d.toList)[i]? = some (encN d[i]!) := by
  simp [icells, encN, hi]
theorem SX.c1 (h : SX X d W) (i : Nat) (hi : i < d.size) : W.cell? ⟨X.blk, i, none⟩ = some (encN d[i]!) := own_cell h.own rfl (icells_at hi)
theorem SX.f1 (h : SX X d W) (i : Nat) (hi : i < d.size) : W.frozen? ⟨X.blk, i, none⟩ = false := own_free h.own rfl i
theorem SX.cmp (h : SX X d W) (i j : Nat) (hi : i < d.size) (hj : j < d.size) :
    Calls Try.prog 78 #[.pointer (some ⟨X.b.p, 0, none⟩), encN d[i]!, encN d[j]!] W fun e w' => e = .returned (.int .i64 (X.cf d[i]! d[j]!)) ∧ SX X d w' ∧ Ext (fun k => k = X.b.r3) W w' := by
  have hget : ∀ x, x < X.vs.length → X.vs[x]? = some (X.vs.getD x 0) := fun x hx => by simp [hx]
  refine (cmp_any (hget _ (h.lt i hi)) (hget _ (h.lt j hj)) h.inv).mono ?_
  rintro e w' ⟨rfl, hc⟩
  exact ⟨rfl, ⟨h.inv0, h.blt, hc.inv, h.ext.trans hc.ext fun k hk => .inl (.inl hk), h.free, own_ext h.own hc.ext fun k hk e => h.r3ne (by have e' : X.blk = k := Option.some.inj hk; rw [e']; exact e), h.lt⟩, hc.ext⟩
theorem SX.c2 (h : SX X d W) (i j : Nat) (hi : i < d.size) (hj : j < d.size) (v : Value) : ∃ u, (W.setCell ⟨X.blk, i, none⟩ v).cell? ⟨X.blk, j, none⟩ = some u := by
  by_cases e : i = j
  · subst e; exact ⟨v, World.cell?_setCell_same _ _ _ (h.c1 i hi)⟩
  · exact ⟨_, (World.cell?_setCell_other _ _ _ _ (by intro e'; simp only [Addr.mk.injEq] at e'; omega)).trans (h.c1 j hj)⟩
theorem SX.swapped (h : SX X d W) (i j : Nat) (hi : i < d.size) (hj : j < d.size) :
    SX X (swp d i j) ((W.setCell ⟨X.blk, i, none⟩ (encN d[j]!)).setCell ⟨X.blk, j, none⟩ (encN d[i]!)).drew := by
  have hx1 : Ext (fun q => q = X.blk) W (W.setCell ⟨X.blk, i, none⟩ (encN d[j]!)) := (Ext.refl (fun q => q = X.blk) W).setCell (p := ⟨X.blk, i, none⟩) (.inl rfl) _
  have hx2 : Ext (fun q => q = X.blk) W ((W.setCell ⟨X.blk, i, none⟩ (encN d[j]!)).setCell ⟨X.blk, j, none⟩ (encN d[i]!)) := hx1.setCell (p := ⟨X.blk, j, none⟩) (.inl rfl) _
  have ho1 := own_set h.own (b := X.blk) rfl (j := i) (by omega) (encN d[j]!)
  have ho2 := own_set ho1 (b := X.blk) rfl (j := j) (by omega) (encN d[i]!)
  have hl : icells (swp d i j).toList = ((icells d.toList).set i (encN d[j]!)).set j (encN d[i]!) := by
    simp [icells, swp, encN]
  refine SX.drew ⟨h.inv0, h.blt, h.inv.extF hx2 fun k hk _ => hk ▸ h.freeRow, h.ext.trans hx2 fun k hk => .inl (.inr hk), h.free, ?_, fun k hk => ?_⟩
  · rw [hl, size_swp]; exact ho2
  · rw [size_swp] at hk
    unfold swp
    rw [Array.getElem!_eq_getD, Array.getD_eq_getD_getElem?]
    simp only [Array.getElem?_setIfInBounds]
    by_cases e1 : j = k
    · subst e1; simp [hj]; simpa [hi] using h.lt i hi
    · by_cases e2 : i = k
      · subst e2; simp [e1, hi]; simpa [hj] using h.lt j hj
      · simp [e1, e2, hk]; simpa [hk] using h.lt k hk
theorem box_kept1 {W : World} {blk c : Nat} {v : Value} (hne : c ≠ blk) (hc : W.cell? ⟨c, 0, none⟩ = some v) (hf : W.frozen? ⟨c, 0, none⟩ = false) (x y : Nat) (u u' : Value) :
    ((W.setCell ⟨blk, x, none⟩ u).setCell ⟨blk, y, none⟩ u').drew.cell? ⟨c, 0, none⟩ = some v ∧ ((W.setCell ⟨blk, x, none⟩ u).setCell ⟨blk, y, none⟩ u').drew.frozen? ⟨c, 0, none⟩ = false :=
  ⟨by show ((W.setCell ⟨blk, x, none⟩ u).setCell ⟨blk, y, none⟩ u').cell? _ = _; rw [World.cell?_setCell_other _ _ _ _ (by intro e; simp only [Addr.mk.injEq] at e; exact hne e.1.symm), World.cell?_setCell_other _ _ _ _ (by intro e; simp only [Addr.mk.injEq] at e; exact hne e.1.symm)]; exact hc, by show ((W.setCell ⟨blk, x, none⟩ u).setCell ⟨blk, y, none⟩ u').frozen? _ = _; rw [World.frozen?_setCell, World.frozen?_setCell]; exact hf⟩
def CX (X : SC) (d : Array Nat) (c s : Nat) (W : World) : Prop :=
  SX X d W ∧ W.cell? ⟨c, 0, none⟩ = some (.int .i64 s) ∧ W.frozen? ⟨c, 0, none⟩ = false ∧ X.w0.heap.size ≤ c ∧ c < W.heap.size
theorem frozen_same {w w1 : World} {b : Nat} (h : w1.heap[b]? = w.heap[b]?) (i : Nat) : w1.frozen? ⟨b, i, none⟩ = w.frozen? ⟨b, i, none⟩ := by simp [World.frozen?, h]
theorem CX.kept {c s : Nat} (h : CX X d c s W) {d' : Array Nat} (hs : SX X d' W') (e : Ext (fun k => k = X.b.r3) W W') : CX X d' c s W' := by
  have hne : c ≠ X.b.r3 := fun e => by have := h.1.inv0.lt X.b.r3 (.inr (.inr (.inr (.inr rfl)))); have := h.2.2.2.1; omega
  have hb := e.block c h.2.2.2.2 hne
  exact ⟨hs, (cell_same hb 0).trans h.2.1, (frozen_same hb 0).trans h.2.2.1, h.2.2.2.1, Nat.lt_of_lt_of_le h.2.2.2.2 e.size⟩
theorem CX.drew {c s : Nat} (h : CX X d c s W) : CX X d c s W.drew := ⟨h.1.drew, h.2.1, h.2.2.1, h.2.2.2.1, h.2.2.2.2⟩
theorem CX.bump {c s : Nat} (h : CX X d c s W) (t : Nat) : CX X d c t (W.setCell ⟨c, 0, none⟩ (.int .i64 t)) :=
  ⟨h.1.setCell_new c 0 _ h.2.2.2.1, World.cell?_setCell_same' _ _ _ (by rw [h.2.1]; rfl), by rw [World.frozen?_setCell]; exact h.2.2.1, h.2.2.2.1, by simpa using h.2.2.2.2⟩
theorem CX.start (h : SX X d W) (T : TypeId) : CX X d W.heap.size 0 (W.alloc (.cells #[.int .i64 0] T)) :=
  ⟨h.alloc _, by simp, by simp, h.le, by simp⟩
end Go.Proofs.Ytgchfbfgjanaiaa

namespace Go.Proofs.Ytgchfbfgjanaiaa
open Go.RowKit Sr
theorem enc_turn {x y : Int} {vs : List Int} {f : Nat → Nat} (hf : ∀ g ∈ exps y, f ((pvs x).idxOf (g : Int)) = vs.idxOf (g : Int)) : (enc (pvs x) y).map (fun t => (t.1, f t.2)) = enc vs y := by
  unfold enc
  rw [List.map_map]
  apply List.map_congr_left
  intro t ht
  simp only [Function.comp]
  rw [hf _ (mem_exps.2 ⟨t, ht, rfl⟩)]
noncomputable def atPart (x : Int) (vs : List Int) (i : Nat) : Nat := vs.idxOf ((pvs x).getD i 0)
theorem atPart_idx {x : Int} {vs : List Int} {g : Nat} (h : Part g x) : atPart x vs ((pvs x).idxOf (g : Int)) = vs.idxOf (g : Int) := by
  unfold atPart
  rw [List.getD_eq_getElem?_getD, idxOf_get (pvs_mem.2 h)]
  rfl
structure TK (U : List Int) (w : World) (b : WB) (vs : List Int) (x : Int) (p : Option Addr) (k : Nat) (wr : World) (vs1 : List Int) (b1 : WB) (sv : Value) : Prop where
  st : WStep U w wr b b1 vs vs1
  fs : FStep noB w wr b b1 vs vs1
  got : ∀ e ∈ (plist x).take k, (e : Int) ∈ vs1
  var : wr.heap[w.heap.size + 1 + 1]? = some (.cells #[sv] 57 (0, 0))
  own : wr.ownsRow (w.heap.size + 1 + 1 + 1) 3 1 sv k (icells (((plist x).take k).map fun e : Nat => vs1.idxOf (e : Int)))
  free : ∀ q, sv.ownBlock = some q → WFree wr b1 vs1 q
  freeV : ∀ q, w.heap.size ≤ q → q ≤ w.heap.size + 1 + 1 → WFree wr b1 vs1 q
  c0 : wr.heap[w.heap.size]? = some (.cells #[.pointer (some ⟨b.p, 0, none⟩)] 94 (0, 0))
  c1 : wr.heap[w.heap.size + 1]? = some (.cells #[.pointer p] 30 (0, 0))
theorem TK.push {U : List Int} {w : World} {b : WB} {vs : List Int} {x : Int} {p : Option Addr} {k e : Nat} {wr wr' w6 w8 : World} {vs1 vs2 : List Int} {b1 b2 : WB} {sv : Value} {g c : Nat}
    (h : TK U w b vs x p k wr vs1 b1 sv) (hwr : Ext noB wr wr') (he : (plist x)[k]? = some e) (hs : WStep U wr' w6 b1 b2 vs1 vs2) (hf : FStep noB wr' w6 b1 b2 vs1 vs2) (hin : (e : Int) ∈ vs2)
    (ho : w8.ownsRow (w.heap.size + 1 + 1 + 1) 3 1 (.slice (some ⟨g, 0, none⟩) (k + 1) c) (k + 1) (icells (((plist x).take k).map fun e : Nat => vs1.idxOf (e : Int)) ++ [.int .i64 (vs2.idxOf (e : Int) : Nat)]))
    (hg : (w6.alloc (.cells #[.int .i64 (vs2.idxOf (e : Int) : Nat)] 3)).grownBy w8 sv.ownBlock) (hn : NewOr (w6.alloc (.cells #[.int .i64 (vs2.idxOf (e : Int) : Nat)] 3)) sv (.slice (some ⟨g, 0, none⟩) (k + 1) c)) :
    TK U w b vs x p (k + 1) (w8.setCell ⟨w.heap.size + 1 + 1, 0, none⟩ (.slice (some ⟨g, 0, none⟩) (k + 1) c)) vs2 b2 (.slice (some ⟨g, 0, none⟩) (k + 1) c) := by
  have hst := h.st
  have hfs := h.fs
  have hsz : wr.heap.size ≤ w6.heap.size := Nat.le_trans hwr.size hs.ext.size
  have hvl := lt_of_blk h.var
  have hi1 : WInv wr b1 vs1 U := h.st.inv
  -- the world ahead of the call
  have st1 : WStep U w wr' b b1 vs vs1 := ⟨hi1.below hwr.below, h.st.pre, h.st.ext.trans hwr (fun _ e => e.elim), h.st.p, h.st.r1, h.st.r2, h.st.r3, h.st.f⟩
  have fs1 : FStep noB w wr' b b1 vs vs1 := h.fs.trans (FStep.same (X := noB) hwr (hi1.lt _ (.inr (.inl rfl))) (fun e => e)) h.st.ext.size (fun _ e => e.elim)
  have st2 := st1.trans hs
  have fs2 := fs1.trans hf (Nat.le_trans h.st.ext.size hwr.size) (fun _ e => e.elim)
  have free6 : ∀ q, q < wr.heap.size → WFree wr b1 vs1 q → WFree w6 b2 vs2 q := fun q hq hfr =>
    hf q (Nat.lt_of_lt_of_le hq hwr.size) (fun e => e) (hfr.same hwr (hi1.lt _ (.inr (.inl rfl))) (fun e => e))
  have hsvlt : ∀ q, sv.ownBlock = some q → q < wr.heap.size := fun q hq => (h.own.lt q hq).2
  have hsvge : ∀ q, sv.ownBlock = some q → w.heap.size + 1 + 1 + 1 ≤ q := fun q hq => (h.own.lt q hq).1
  -- what lies behind the call
  have e68 : Ext (fun q => sv.ownBlock = some q) w6 w8 := ((Ext.refl _ _).alloc _).grown hg (fun q hq => .inl hq)
  have e89 : Ext (fun q => q = w.heap.size + 1 + 1) w8 (w8.setCell ⟨w.heap.size + 1 + 1, 0, none⟩ (.slice (some ⟨g, 0, none⟩) (k + 1) c)) := (Ext.refl (fun q => q = w.heap.size + 1 + 1) w8).setCell (p := ⟨w.heap.size + 1 + 1, 0, none⟩) (.inl rfl) _
  have e69 : Ext (fun q => sv.ownBlock = some q ∨ q = w.heap.size + 1 + 1) w6 (w8.setCell ⟨w.heap.size + 1 + 1, 0, none⟩ (.slice (some ⟨g, 0, none⟩) (k + 1) c)) :=
    ((Ext.refl _ w6).trans e68 (fun q hq => .inl (.inl hq))).trans e89 (fun q hq => .inl (.inr hq))
  have fr6 : ∀ q, (sv.ownBlock = some q ∨ q = w.heap.size + 1 + 1) → WFree w6 b2 vs2 q := fun q hq => by
    rcases hq with hq | rfl
    · exact free6 q (hsvlt q hq) (h.free q hq)
    · exact free6 _ hvl (h.freeV _ (by omega) (by omega))
  have hi6 : WInv w6 b2 vs2 U := hs.inv
  have hi9 := hi6.extF e69 (fun q hq _ => fr6 q hq)
  have hnf : ¬ (sv.ownBlock = some b2.f ∨ b2.f = w.heap.size + 1 + 1) := fun hq => (fr6 _ hq).1 (.inr (.inl rfl))
  have hfl : b2.f < w6.heap.size := hi6.lt _ (.inr (.inl rfl))
  have keep : ∀ q o, wr.heap[q]? = some o → ¬ b1.M q → ¬ (sv.ownBlock = some q ∨ q = w.heap.size + 1 + 1) → (w8.setCell ⟨w.heap.size + 1 + 1, 0, none⟩ (.slice (some ⟨g, 0, none⟩) (k + 1) c)).heap[q]? = some o := fun q o ho hM hq =>
    e69.get (hs.ext.get (hwr.get ho (fun e => e)) hM) hq
  have htk : (plist x).take (k + 1) = (plist x).take k ++ [e] := take_snoc he
  have hb1 : ∀ q, w.heap.size ≤ q → q < w.heap.size + 1 + 1 → ¬ b1.M q := fun q h1 h2 => (h.freeV q h1 (by omega)).1
  refine ⟨⟨hi9, st2.pre, st2.ext.trans e69 (fun q hq => ?_), st2.p, st2.r1, st2.r2, st2.r3, st2.f⟩, ?_, ?_, ?_, ?_, ?_, ?_, ?_, ?_⟩
  · rcases hq with hq | rfl
    · exact .inr (by have := hsvge q hq; omega)
    · exact .inr (by omega)
  · exact fs2.trans (FStep.same (X := noB) e69 hfl hnf) (Nat.le_trans (Nat.le_trans h.st.ext.size hwr.size) hs.ext.size) (fun _ e => e.elim)
  · intro a ha
    rw [htk, List.mem_append] at ha
    rcases ha with ha | ha
    · exact hs.pre.subset (h.got a ha)
    · simp at ha; subst ha; exact hin
  · have hvar8 : w8.heap[w.heap.size + 1 + 1]? = some (.cells #[sv] 57 (0, 0)) := e68.get (hs.ext.get (hwr.get h.var (fun e => e)) (h.freeV _ (by omega) (by omega)).1) (fun hq => by have := hsvge _ hq; omega)
    rw [blk_setCell hvar8]
    rfl
  · have := own_ext ho e89 (fun q hq e => by have := (ho.lt q hq).1; omega)
    rw [htk, List.map_append]
    have e2 : ((plist x).take k).map (fun e : Nat => vs2.idxOf (e : Int)) = ((plist x).take k).map (fun e : Nat => vs1.idxOf (e : Int)) := List.map_congr_left fun a ha => idxOf_prefix hs.pre (h.got a ha)
    rw [e2]
    simpa [icells] using this
  · intro q hq
    have hw : WFree w6 b2 vs2 q := by
      rcases hn with hn | ⟨z, hz, hge⟩
      · rw [hn] at hq
        exact fr6 q (.inl hq)
      · rw [hz] at hq
        obtain rfl := Option.some.inj hq
        exact hi6.fresh (by simp at hge; omega)
    exact hw.same e69 hfl hnf
  · exact fun q h1 h2 => (free6 q (by omega) (h.freeV q h1 h2)).same e69 hfl hnf
  · exact keep _ _ h.c0 (hb1 _ (Nat.le_refl _) (by omega)) (fun hq => by rcases hq with hq | hq; exact absurd (hsvge _ hq) (by omega); omega)
  · exact keep _ _ h.c1 (hb1 _ (by omega) (by omega)) (fun hq => by rcases hq with hq | hq; exact absurd (hsvge _ hq) (by omega); omega)
end Go.Proofs.Ytgchfbfgjanaiaa

namespace Go.Proofs.Ytgchfbfgjanaiaa
open Go.RowKit Sr
theorem part_len {x : Int} (h : Allowed x) : (plist x).length ≤ 100000 := by
  have := h.2.2.1
  unfold weight at this
  omega
set_option maxRecDepth 100000 in
set_option maxHeartbeats 4000000 in
theorem wtake_any {w0 w : World} {b : WB} {vs U : List Int} (h : WInv w b vs U) {v : Value} {x : Int} (hx : NumIs w0 v x) (hb0 : Below w0.heap.size w0 w) (hM : ∀ k, b.M k → w0.heap.size ≤ k)
    (hU : ∀ e : Nat, Part e x → (e : Int) ∈ U) (hUx : x ∈ U) :
    Calls Try.prog 69 #[.pointer (some ⟨b.p, 0, none⟩), v] w fun e w' => ∃ vs' b', e = .returned (.int .i64 (vs'.idxOf x : Nat)) ∧ x ∈ vs' ∧ WStep U w w' b b' vs vs' ∧ FStep noB w w' b b' vs vs' := by
  obtain ⟨p, hp⟩ : ∃ p, v = .agg #[.pointer p] := by
    rcases hx.2 with ⟨_, h⟩ | ⟨_, k, h, _⟩
    · exact ⟨none, h⟩
    · exact ⟨_, h⟩
  subst hp
  have hlen := part_len hx.1
  obtain ⟨W3, hW3⟩ : ∃ W3, W3 = ((w.alloc (.cells #[.pointer (some ⟨b.p, 0, none⟩)] 94)).alloc (.cells #[.pointer p] 30)).alloc (.cells #[.slice none 0 0] 57) := ⟨_, rfl⟩
  have s3 : W3.heap.size = w.heap.size + 1 + 1 + 1 := by rw [hW3]; simp
  have b3 : Below w.heap.size w W3 := by
    rw [hW3]
    exact (((Below.refl _ _).alloc (Nat.le_refl _) _).alloc (by simp) _).alloc (by simp; omega) _
  have x0 := blk_alloc_old (blk_alloc_old (blk_alloc w (.cells #[.pointer (some ⟨b.p, 0, none⟩)] 94)) (.cells #[.pointer p] 30)) (.cells #[.slice none 0 0] 57)
  have x1 := blk_alloc_old (blk_alloc (w.alloc (.cells #[.pointer (some ⟨b.p, 0, none⟩)] 94)) (.cells #[.pointer p] 30)) (.cells #[.slice none 0 0] 57)
  have x2 := blk_alloc ((w.alloc (.cells #[.pointer (some ⟨b.p, 0, none⟩)] 94)).alloc (.cells #[.pointer p] 30)) (.cells #[.slice none 0 0] 57)
  simp only [World.size_alloc] at x1 x2
  rw [← hW3] at x0 x1 x2
  have h03 : Below w0.heap.size w0 W3 := hb0.trans ⟨b3.os, b3.tape, b3.output, b3.size, fun k hk => b3.block k (by have := hb0.size; omega)⟩
  have hpa := parts_at hx h03
  have HPA := Sealed.mk hpa; clear hpa
  obtain ⟨np, hnp⟩ : ∃ np, np = (plist x).length := ⟨_, rfl⟩
  rw [← hnp] at hlen
  have H := Sealed.mk (And.intro h (And.intro hx (And.intro hb0 (And.intro hM (And.intro hU (And.intro hUx hnp)))))); clear h hx hb0 hM hU hUx hnp
  have H3 := Sealed.mk (And.intro s3 (And.intro b3 (And.intro x0 (And.intro x1 (And.intro x2 (And.intro h03 hW3)))))); clear s3 b3 x0 x1 x2 h03
  rw [hW3] at HPA
  clear hW3
  go_enter Try.func69, Try.ntmps69
  go_wp2_with (go_at_call 65; go_must (refine HPA.out.mono ?_; rintro e w4 ⟨pv, rfl, ⟨hpl, pa, pc, rfl, hpc, hpr⟩, hb4⟩; rw [← H3.out.2.2.2.2.2.2] at hb4; rw [← H.out.2.2.2.2.2.2] at hpc ⊢; have HPR := Sealed.mk (And.intro hpl (And.intro hpr hb4)); clear hpl hpr hb4))
  go_loopg [8, 13] np (fun j _ i wr => ∃ (k : Nat) (vs1 : List Int) (b1 : WB) (sv : Value), j = np - k ∧ k ≤ np ∧ i = .int .i64 (k : Int) ∧ TK U w b vs x p k wr vs1 b1 sv)
  case atStart =>
    have hb4 := HPR.out.2.2
    have b4 : Below w.heap.size w w4 := H3.out.2.1.trans ⟨hb4.os, hb4.tape, hb4.output, hb4.size, fun k hk => hb4.block k (by have := H3.out.1; omega)⟩
    have hfl := H.out.1.lt _ (.inr (.inl rfl))
    refine ⟨0, vs, b, .slice none 0 0, rfl, Nat.zero_le _, rfl, ⟨WStep.kept H.out.1 b4, FStep.same (X := noB) (Ext.of_below (M := noB) b4) hfl (fun e => e), by simp, ?_, ?_, fun q hq => by simp [Value.ownBlock] at hq, fun q h1 _ => (H.out.1.fresh h1).same (Ext.of_below (M := noB) b4) hfl (fun e => e), ?_, ?_⟩⟩
    · exact (hb4.block _ (lt_of_blk H3.out.2.2.2.2.1)).trans H3.out.2.2.2.2.1
    · simpa [icells] using World.ownsRow_nil _ _ _ _
    · exact (hb4.block _ (lt_of_blk H3.out.2.2.1)).trans H3.out.2.2.1
    · exact (hb4.block _ (lt_of_blk H3.out.2.2.2.1)).trans H3.out.2.2.2.1
  case round =>
    obtain ⟨k, vs1, b1, sv, rfl, hk, rfl, htk⟩ := hrel
    by_cases hkl : k < np
    · obtain ⟨e, he⟩ : ∃ e, (plist x)[k]? = some e := ⟨_, List.getElem?_eq_getElem (by rw [← H.out.2.2.2.2.2.2]; exact hkl)⟩
      have hpx : Part e x := mem_plist.1 (List.mem_of_getElem? he)
      obtain ⟨pb, po, rfl, hrd⟩ := HPR.out.2.1 (fun hnil => by rw [hnil] at he; simp at he)
      obtain ⟨u, hu, htl⟩ := hrd.get k e he
      obtain ⟨ua, un, uc, rfl⟩ := htl.slice
      have hMx : ∀ q, q < w0.heap.size → ¬ b.M q := fun q hq hm => by have := H.out.2.2.2.1 q hm; omega
      have hpb := lt_of_cell hu
      have c5 : wr.cell? ⟨pb, po + k, none⟩ = some (.slice ua un uc) :=
        (cell_same ((htk.st.ext.block pb (by have := H.out.2.2.1.size; omega) (hMx pb hpb)).trans (H.out.2.2.1.block pb hpb)) _).trans hu
      have tlr : TL wr (.slice ua un uc) (enc (pvs x) (e : Int)) := (htl.below H.out.2.2.1).ext htk.st.ext fun q hq => hMx q (htl.lt q hq)
      have bd : Below wr.heap.size wr wr.drew := ⟨rfl, rfl, rfl, Nat.le_refl _, fun _ _ => rfl⟩
      have htf := takeF_any (w := wr.drew) (htk.st.inv.below bd) (tlr.below bd) (bm := w.heap.size + 1 + 1) (bw := w.heap.size) (pv := sv) htk.var (by rw [htk.st.p]; exact htk.c0) (atPart x vs1)
        (fun t ht => by
          obtain ⟨⟨m, g⟩, hg, rfl⟩ := List.mem_map.1 ht
          have hge : g ∈ exps (e : Int) := mem_exps.2 ⟨_, hg, rfl⟩
          have hgk := part_ahead he hge
          have hgx := hpx.up hge
          have hil := List.idxOf_lt_length_of_mem hgk
          have hgi : ((plist x).take k)[((plist x).take k).idxOf g]? = some g := by rw [List.getElem?_eq_getElem hil]; simp
          rw [idxOf_take hgk] at hil hgi
          have hk0 : (plist x).idxOf g < k := by simp at hil; omega
          obtain ⟨g0, c0, rfl⟩ := own_form htk.own (by omega)
          refine ⟨g0, k, c0, rfl, by simp only; rw [pvs_idxOf]; exact hk0, by omega, ?_⟩
          simp only
          rw [atPart_idx hgx, pvs_idxOf]
          exact own_cell (w := wr) htk.own rfl (by unfold icells; rw [List.getElem?_map, List.getElem?_map, hgi]; rfl))
        (enc_turn fun g hg => atPart_idx (hpx.up hg)) (fun t ht => htk.got _ (part_ahead he (mem_exps.2 ⟨t, ht, rfl⟩))) (H.out.2.2.2.2.1 e hpx)
      have n5 : wr.drew.cell? ⟨w.heap.size + 1 + 1, 0, none⟩ = some sv := (cell_of_blk htk.var 0).trans rfl
      have HTF := Sealed.mk htf; clear htf
      have HTK := Sealed.mk (And.intro htk he); clear htk he tlr bd hu htl hrd hpb hMx
      have hkz : (0 : Int) ≤ (k : Int) := by omega
      have hkz2 : (k : Int) < (np : Int) := by omega
      go_upto_region 6 with fail
      go_region_law
        (first
          | (go_simp; go_at_call 98; go_must (refine HTF.out.mono ?_; rintro e' w6 ⟨vs2, b2, rfl, hin, hs, hf⟩; have z6 := hs.ext.get (show wr.drew.heap[w.heap.size + 1 + 1]? = _ from HTK.out.1.var) (HTK.out.1.freeV _ (by omega) (by omega)).1; have n6 : w6.cell? ⟨w.heap.size + 1 + 1, 0, none⟩ = some sv := (cell_of_blk z6 0).trans rfl; have n6' : ∀ o, (w6.alloc o).cell? ⟨w.heap.size + 1 + 1, 0, none⟩ = some sv := fun o => (cell_of_blk (blk_alloc_old z6 o) 0).trans rfl; have HO6 := Sealed.mk (And.intro (own_ext (w := wr.drew) HTK.out.1.own hs.ext fun q hq => (HTK.out.1.free q hq).1) (And.intro z6 (And.intro hin (And.intro hs hf)))); clear hin hs hf z6); try go_simp)
          | (refine step_ap_lit el_int (.tmp 17) (.tmp 21) rfl rfl rfl HO6.out.1 rfl rfl rfl rfl (by omega) (by have := HTK.out.1.var; have := lt_of_blk this; have h6 : wr.heap.size ≤ w6.heap.size := HO6.out.2.2.2.1.ext.size; omega) ?_; intro g7 c7 w7 ho7 hg7 hn7
             have z7 := (hg7.block (w.heap.size + 1 + 1) (by have := lt_of_blk HO6.out.2.1; simp; omega) (fun z => by have := (HTK.out.1.own.lt _ z.symm).1; omega)).trans (blk_alloc_old HO6.out.2.1 _)
             have v7 : w7.cell? ⟨w.heap.size + 1 + 1, 0, none⟩ = some sv := (cell_of_blk z7 0).trans rfl
             have v7' : w7.frozen? ⟨w.heap.size + 1 + 1, 0, none⟩ = false := frozen_of_blk z7 0
             have HO7 := Sealed.mk (And.intro ho7 (And.intro hg7 hn7))
             clear ho7 hg7 hn7 z7))
      all_goals
        go_wp2_with fail
        go_roundg (np - (k + 1))
        case measure => omega
        case rel => exact ⟨k + 1, vs2, b2, _, rfl, by omega, by push_cast; rfl, TK.push HTK.out.1 ((Ext.refl noB wr).drew) HTK.out.2 HO6.out.2.2.2.1 HO6.out.2.2.2.2 HO6.out.2.2.1 HO7.out.1 HO7.out.2.1 HO7.out.2.2⟩
    · have hkn : k = (plist x).length := by rw [← H.out.2.2.2.2.2.2]; omega
      have hMx : ∀ q, q < w0.heap.size → ¬ b.M q := fun q hq hm => by have := H.out.2.2.2.1 q hm; omega
      have e0 := htk.st.ext
      have hb0 := H.out.2.2.1
      have b0r : Below w0.heap.size w0 wr := ⟨e0.os.trans hb0.os, e0.tape.trans hb0.tape, e0.output.trans hb0.output, Nat.le_trans hb0.size e0.size, fun q hq => (e0.block q (by have := hb0.size; omega) (hMx q hq)).trans (hb0.block q hq)⟩
      have c1 : wr.cell? ⟨w.heap.size + 1, 0, none⟩ = some (.pointer p) := (cell_of_blk htk.c1 0).trans rfl
      have hse := self_at H.out.2.1 b0r
      have HSE := Sealed.mk hse; clear hse
      have HTK := Sealed.mk (And.intro htk (And.intro hkn b0r)); clear htk hkn b0r e0 hb0 hMx
      go_wp2_with (first
        | (go_at_call 66; go_must (refine HSE.out.mono ?_; rintro e w5 ⟨sf, rfl, hsf, hb5⟩; have HS5 := Sealed.mk (And.intro hsf hb5); clear hsf hb5)))
      obtain ⟨htk, hkn, b0r⟩ := HTK.out
      obtain ⟨hsf, hb5⟩ := HS5.out
      have b05 : Below w0.heap.size w0 w5 := b0r.trans ⟨hb5.os, hb5.tape, hb5.output, hb5.size, fun q hq => hb5.block q (by have := b0r.size; omega)⟩
      have hall : (plist x).take k = plist x := by rw [hkn, List.take_length]
      have htf := takeF_any (w := w5) (htk.st.inv.below hb5) (hsf.below b05) (bm := w.heap.size + 1 + 1) (bw := w.heap.size) (pv := sv) ((hb5.block _ (lt_of_blk htk.var)).trans htk.var) (by rw [htk.st.p]; exact (hb5.block _ (lt_of_blk htk.c0)).trans htk.c0) (atPart x vs1)
        (fun t ht => by
          obtain ⟨⟨m, g⟩, hg, rfl⟩ := List.mem_map.1 ht
          have hge : g ∈ exps x := mem_exps.2 ⟨_, hg, rfl⟩
          have hgx : Part g x := .here hge
          have hgi := List.idxOf_lt_length_of_mem (mem_plist.2 hgx)
          have hgi2 : (plist x)[(plist x).idxOf g]? = some g := by rw [List.getElem?_eq_getElem hgi]; simp
          obtain ⟨g0, c0, rfl⟩ := own_form htk.own (by omega)
          refine ⟨g0, k, c0, rfl, by simp only; rw [pvs_idxOf]; omega, by omega, ?_⟩
          simp only
          rw [atPart_idx hgx, pvs_idxOf]
          exact (cell_same (hb5.block _ (htk.own.lt _ rfl).2) _).trans (own_cell (w := wr) htk.own rfl (by rw [hall]; unfold icells; rw [List.getElem?_map, List.getElem?_map, hgi2]; rfl)))
        (enc_turn fun g hg => atPart_idx (.here hg)) (fun t ht => htk.got _ (by rw [hall]; exact mem_plist.2 (.here (mem_exps.2 ⟨t, ht, rfl⟩)))) H.out.2.2.2.2.2.1
      have HT := Sealed.mk (And.intro htk hb5); clear htk hb5 hkn b0r hsf b05 hall
      refine htf.mono ?_
      clear htf
      rintro e w6 ⟨vs2, b2, rfl, hin, hs, hf⟩
      have HS := Sealed.mk (And.intro hin (And.intro hs hf)); clear hin hs hf
      go_wp2_with fail
      go_ret
      obtain ⟨htk, hb5⟩ := HT.out
      obtain ⟨hin, hs, hf⟩ := HS.out
      refine ⟨vs2, b2, rfl, hin, (htk.st.trans (WStep.kept htk.st.inv hb5)).trans hs, ?_⟩
      exact (htk.fs.trans (FStep.same (X := noB) (Ext.of_below (M := noB) hb5) (htk.st.inv.lt _ (.inr (.inl rfl))) (fun e => e)) htk.st.ext.size (fun _ e => e.elim)).trans hf (Nat.le_trans htk.st.ext.size hb5.size) (fun _ e => e.elim)
end Go.Proofs.Ytgchfbfgjanaiaa

namespace Go.Proofs.Ytgchfbfgjanaiaa
open Go.RowKit Sr
noncomputable def twoU (x y : Int) : List Int := 0 :: x :: y :: (pvs x ++ pvs y)
theorem twoU_length {x y : Int} (hx : Allowed x) (hy : Allowed y) : (twoU x y).length ≤ roomW := by
  have h1 := hx.2.2.1
  have h2 := hy.2.2.1
  unfold weight at h1 h2
  unfold twoU roomW pvs
  simp
  omega
theorem below_ext {w0 w w1 : World} {M : Nat → Prop} (h : Below w0.heap.size w0 w) (e : Ext M w w1) (hM : ∀ k, M k → w0.heap.size ≤ k) : Below w0.heap.size w0 w1 :=
  ⟨e.os.trans h.os, e.tape.trans h.tape, e.output.trans h.output, Nat.le_trans h.size e.size, fun q hq => (e.block q (by have := h.size; omega) (fun hm => by have := hM q hm; omega)).trans (h.block q hq)⟩
theorem news_ge {U : List Int} {w0 w w' : World} {b b' : WB} {vs vs' : List Int} (h : WStep U w w' b b' vs vs') (hM : ∀ k, b.M k → w0.heap.size ≤ k) (hs : w0.heap.size ≤ w.heap.size) : ∀ k, b'.M k → w0.heap.size ≤ k := fun k hk => by
  rcases h.news k hk with h | h
  · exact hM k h
  · omega
theorem NumIs.ptr {w : World} {u : Value} {x : Int} (h : NumIs w u x) : ∃ p, u = .agg #[.pointer p] := by
  rcases h.2 with ⟨_, h⟩ | ⟨_, k, h, _⟩
  · exact ⟨none, h⟩
  · exact ⟨_, h⟩
set_option maxRecDepth 100000 in
set_option maxHeartbeats 4000000 in
theorem Cmp_any {w : World} {u v : Value} {x y : Int} (hx : NumIs w u x) (hy : NumIs w v y) : Calls Try.prog 37 #[u, v] w fun e w' => e = .returned (.int .i64 (sg (x - y))) ∧ Below w.heap.size w w' := by
  obtain ⟨p, rfl⟩ := hx.ptr
  obtain ⟨q, rfl⟩ := hy.ptr
  obtain ⟨W2, hW2⟩ : ∃ W2, W2 = (w.alloc (.cells #[.pointer p] 30)).alloc (.cells #[.pointer q] 30) := ⟨_, rfl⟩
  have s2 : W2.heap.size = w.heap.size + 1 + 1 := by rw [hW2]; simp
  have b2 : Below w.heap.size w W2 := by rw [hW2]; exact ((Below.refl _ _).alloc (Nat.le_refl _) _).alloc (by simp) _
  have x0 := blk_alloc_old (blk_alloc w (.cells #[.pointer p] 30)) (.cells #[.pointer q] 30)
  have x1 := blk_alloc (w.alloc (.cells #[.pointer p] 30)) (.cells #[.pointer q] 30)
  simp only [World.size_alloc] at x1
  rw [← hW2] at x0 x1
  have hnw := newWorld_any (w := W2) (U := twoU x y) (by simp [twoU]) (twoU_length hx.1 hy.1)
  rw [hW2] at hnw
  have HNW := Sealed.mk hnw; clear hnw
  have H := Sealed.mk (And.intro hx (And.intro hy (And.intro s2 (And.intro b2 (And.intro x0 (And.intro x1 hW2)))))); clear hx hy s2 b2 x0 x1 hW2
  go_enter Try.func37, Try.ntmps37
  go_wp2_with (first
    | (go_at_call 52; go_must (refine HNW.out.mono ?_; rintro e w3 ⟨b, rfl, hi3, hb3, hM3⟩; rw [← H.out.2.2.2.2.2.2] at hb3 hM3; have f0 : w3.cell? ⟨w.heap.size, 0, none⟩ = some (.pointer p) := (cell_of_blk ((hb3.block _ (lt_of_blk H.out.2.2.2.2.1)).trans H.out.2.2.2.2.1) 0).trans rfl; have z1 := (hb3.block _ (lt_of_blk H.out.2.2.2.2.2.1)).trans H.out.2.2.2.2.2.1; have b03 : Below w.heap.size w w3 := below_ext H.out.2.2.2.1 (Ext.of_below (M := noB) hb3) (fun _ h => h.elim); have hM : ∀ k, b.M k → w.heap.size + 1 + 1 ≤ k := fun k hk => (by have := hM3 k hk; have := H.out.2.2.1; omega); have ht := wtake_any hi3 H.out.1 b03 (fun k hk => by have := hM k hk; omega) (fun e he => by simp only [twoU, List.mem_cons, List.mem_append]; exact .inr (.inr (.inr (.inl (pvs_mem.2 he))))) (by simp [twoU]); have HT := Sealed.mk ht; clear ht; have H3 := Sealed.mk (And.intro hi3 (And.intro b03 (And.intro hM z1))); clear hi3 b03 hM z1 hb3 hM3))
    | (go_at_call 69; go_must (first
      | (refine HT.out.mono ?_; rintro e w4 ⟨vs1, b1, rfl, hin1, hs1, -⟩; have hM := H3.out.2.2.1; have z1 := hs1.ext.get H3.out.2.2.2 (fun hm => by have := hM _ hm; omega); have f1 : w4.cell? ⟨w.heap.size + 1, 0, none⟩ = some (.pointer q) := (cell_of_blk z1 0).trans rfl; have b04 : Below w.heap.size w w4 := below_ext H3.out.2.1 hs1.ext (fun k hk => by have := hM k hk; omega); have hM1 : ∀ k, b1.M k → w.heap.size ≤ k := news_ge hs1 (fun k hk => by have := hM k hk; omega) H3.out.2.1.size; have ht := wtake_any hs1.inv H.out.2.1 b04 hM1 (fun e he => by simp only [twoU, List.mem_cons, List.mem_append]; exact .inr (.inr (.inr (.inr (pvs_mem.2 he))))) (by simp [twoU]); rw [hs1.p] at ht; have HT2 := Sealed.mk ht; clear ht; have H4 := Sealed.mk (And.intro hin1 (And.intro hs1 (And.intro b04 hM1))); clear hin1 hs1 b04 hM1 z1 hM HT)
      | (refine HT2.out.mono ?_; rintro e w5 ⟨vs2, b2, rfl, hin2, hs2, -⟩; have hc := cmp_any (b := b2) (vs := vs2) (i := vs1.idxOf x) (j := vs2.idxOf y) (by rw [← idxOf_prefix hs2.pre H4.out.1]; exact idxOf_get (hs2.pre.subset H4.out.1)) (idxOf_get hin2) hs2.inv; rw [hs2.p, H4.out.2.1.p] at hc; have HC := Sealed.mk hc; have H5 := Sealed.mk (And.intro hs2 (below_ext H4.out.2.2.1 hs2.ext H4.out.2.2.2)); clear hc hs2 hin2)))
    | (go_at_call 78; go_must (refine HC.out.mono ?_; rintro e w6 ⟨rfl, hcs⟩; have H6 := Sealed.mk hcs; clear hcs)))
  go_ret
  refine ⟨rfl, below_ext H5.out.2 H6.out.ext (fun k hk => ?_)⟩
  exact news_ge H5.out.1 H4.out.2.2.2 H4.out.2.2.1.size k (by have e : k = b2.r3 := hk; exact .inr (.inr (.inr (.inr e))))
end Go.Proofs.Ytgchfbfgjanaiaa

namespace Go.Proofs.Ytgchfbfgjanaiaa
open Go.RowKit Sr
set_option maxRecDepth 100000 in
set_option maxHeartbeats 4000000 in
theorem Weight_any {w : World} {u : Value} {x : Int} (hx : NumIs w u x) : Calls Try.prog 44 #[u] w fun e w' => e = .returned (.int .i64 (weight x : Int)) ∧ Below w.heap.size w w' := by
  obtain ⟨p, rfl⟩ := hx.ptr
  have hlen := part_len hx.1
  have b1 : Below w.heap.size w (w.alloc (.cells #[.pointer p] 30)) := (Below.refl _ _).alloc (Nat.le_refl _) _
  have hpa := parts_at hx b1
  have HPA := Sealed.mk hpa; clear hpa
  have HB := Sealed.mk b1; clear b1 hx
  obtain ⟨np, hnp⟩ : ∃ np, np = (plist x).length := ⟨_, rfl⟩
  rw [← hnp] at hlen
  have HN := Sealed.mk hnp; clear hnp
  have e1 : IntKind.i64.wrap ((np : Int) + 1) = (np : Int) + 1 := by rw [IntKind.wrap_i64]; omega
  go_enter Try.func44, Try.ntmps44
  go_wp2_with (go_at_call 65; go_must (refine HPA.out.mono ?_; rintro e w4 ⟨pv, rfl, ⟨hpl, pa, pc, rfl, hpc, hpr⟩, hb4⟩; rw [← HN.out]; have H4 := Sealed.mk hb4; clear hpl hpc hpr hb4))
  go_ret
  refine ⟨?_, below_ext HB.out (Ext.of_below (M := noB) H4.out) (fun _ h => h.elim)⟩
  have e2 : (weight x : Int) = (np : Int) + 1 := by unfold weight; rw [HN.out]; push_cast; rfl
  rw [e2]
  first | rfl | (rw [← e1]; rfl) | simp [e1]
end Go.Proofs.Ytgchfbfgjanaiaa
