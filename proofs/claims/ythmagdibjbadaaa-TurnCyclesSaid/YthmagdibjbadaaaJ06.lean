/-
  num.world.cmp: plain
  num.world.cmp
-/
import Derived.Test.YthmagdibjbadaaaJ05
set_option linter.unusedSimpArgs false
set_option linter.unusedVariables false
namespace Go.Proofs.Ythmagdibjbadaaa
open Go.RowKit Sr

theorem cmpL_first : ∀ (a b : List T) (i : Nat), a.take i = b.take i → a[i]? ≠ b[i]? →
    cmpL a b = decideT (a.getD i (false, 0)) (b.getD i (false, 0)) (decide (i < a.length)) (decide (i < b.length)) (sg (((a.getD i (false, 0)).2 : Int) - ((b.getD i (false, 0)).2 : Int)))
  | [], [], i, _, h => by simp at h
  | [], t :: b, 0, _, _ => by simp [cmpL, decideT]
  | [], t :: b, i + 1, h, _ => by simp at h
  | s :: a, [], 0, _, _ => by simp [cmpL, decideT]
  | s :: a, [], i + 1, h, _ => by simp at h
  | s :: a, t :: b, 0, _, h => by
    have hst : s ≠ t := by simpa using h
    rw [cmpL, if_neg hst]
    by_cases hm : s.1 = t.1 <;> simp [decideT, hm]
  | s :: a, t :: b, i + 1, h, h2 => by
    simp only [List.take_succ_cons, List.cons.injEq] at h
    obtain ⟨rfl, h⟩ := h
    have := cmpL_first a b i h (by simpa using h2)
    rw [cmpL, if_pos rfl, this]
    simp

theorem enc_get (vs : List Int) (x : Int) (i : Nat) : (enc vs x)[i]? = ((form x)[i]?).map fun t => (t.1, vs.idxOf (t.2 : Int)) := by simp [enc]

theorem sg_abs (z : Int) : -1 ≤ sg z ∧ sg z ≤ 1 := by unfold sg; split <;> (try split) <;> omega

theorem decide_enc {vs : List Int} {x y : Int} (hx : Cov vs x) (hy : Cov vs y) {i : Nat} (h1 : (enc vs x).take i = (enc vs y).take i) (h2 : (enc vs x)[i]? ≠ (enc vs y)[i]?) :
    ∃ c, (-1 ≤ c ∧ c ≤ 1) ∧ sg (x - y) = decideT ((enc vs x).getD i (false, 0)) ((enc vs y).getD i (false, 0)) (decide (i < (enc vs x).length)) (decide (i < (enc vs y).length)) c ∧
      (i < (enc vs x).length → i < (enc vs y).length → ∃ e f : Nat, e ∈ exps x ∧ f ∈ exps y ∧ vs[((enc vs x).getD i (false, 0)).2]? = some (e : Int) ∧ vs[((enc vs y).getD i (false, 0)).2]? = some (f : Int) ∧ c = sg ((e : Int) - f)) := by
  have e1 : (form x).take i = (form y).take i := by
    refine map_enc_inj (v := vs) (fun t ht => hx t (List.mem_of_mem_take ht)) ?_
    simpa [enc, List.map_take] using h1
  have e2 : (form x)[i]? ≠ (form y)[i]? := fun e => h2 (by rw [enc_get, enc_get, e])
  have hc := cmpL_first _ _ i e1 e2
  obtain ⟨n, hn⟩ := form_form x
  obtain ⟨m, hm⟩ := form_form y
  rw [cmpL_sg _ _ n m hn hm, val_form, val_form] at hc
  have l1 : (enc vs x).length = (form x).length := by simp [enc]
  have l2 : (enc vs y).length = (form y).length := by simp [enc]
  refine ⟨sg ((((form x).getD i (false, 0)).2 : Int) - (((form y).getD i (false, 0)).2 : Int)), sg_abs _, ?_, ?_⟩
  · rw [hc, l1, l2]
    by_cases hi : i < (form x).length
    · by_cases hj : i < (form y).length
      · simp [enc, List.getD_eq_getElem?_getD, hi, hj, decideT]
      · simp [enc, List.getD_eq_getElem?_getD, hi, hj, decideT]
    · by_cases hj : i < (form y).length
      · simp [enc, List.getD_eq_getElem?_getD, hi, hj, decideT]
      · exact absurd (by rw [List.getElem?_eq_none (Nat.not_lt.1 hi), List.getElem?_eq_none (Nat.not_lt.1 hj)]) e2
  · intro hi hj
    rw [l1] at hi
    rw [l2] at hj
    have m1 : (form x)[i] ∈ form x := List.getElem_mem hi
    have m2 : (form y)[i] ∈ form y := List.getElem_mem hj
    refine ⟨(form x)[i].2, (form y)[i].2, ?_, ?_, ?_, ?_, ?_⟩
    · exact mem_exps.2 ⟨_, m1, rfl⟩
    · exact mem_exps.2 ⟨_, m2, rfl⟩
    · have := idxOf_get (hx _ m1)
      simpa [enc, List.getD_eq_getElem?_getD, hi] using this
    · have := idxOf_get (hy _ m2)
      simpa [enc, List.getD_eq_getElem?_getD, hj] using this
    · simp [List.getD_eq_getElem?_getD, hi, hj]

/-- in a world, how two numbers compare is put in -/
theorem order_done {w w1 : World} {b : WB} {vs U : List Int} (h : WInv w b vs U) {l : List ((Int × Int) × Int)} (hl : KeysApart l)
    (hq : ∀ q ∈ l, ∃ i j : Nat, q.1 = ((i : Int), (j : Int)) ∧ ∃ x y, vs[i]? = some x ∧ vs[j]? = some y ∧ q.2 = sg (x - y))
    {i j : Nat} {x y : Int} (hi : vs[i]? = some x) (hj : vs[j]? = some y)
    (hm : MapIs encPair w1 b.r3 (putK l ((i : Int), (j : Int)) (sg (x - y)))) (hg : w.grownBy w1 (some b.r3)) : CS w w1 b vs U := by
  have hext : Ext (fun k => k = b.r3) w w1 := (Ext.refl _ _).grown hg fun k hk => .inl (Option.some.inj hk).symm
  refine ⟨?_, hext⟩
  obtain ⟨a1, a2, a3, a4, a5, a6, a7, a8, a9, a10⟩ := h.apart
  obtain ⟨cap, cur, f1, f2, f3, f4, f5, f6⟩ := h.forms
  exact {
    cl := h.cl, sub := h.sub, room := h.room, apart := h.apart
    forms := ⟨cap, cur, hext.get f1 a4, hext.get f2 a7, f3, f4, f5, fun i x hx => by
      obtain ⟨v, e1, e2, e3⟩ := f6 i x hx
      exact ⟨v, e1, e2.ext hext fun k hk e => e3 k hk (.inr (.inr (.inr (.inr e)))), e3⟩⟩
    places := h.places.same (hext.block b.r1 h.places.lt a9)
    greater := by
      obtain ⟨l2, g1, g2⟩ := h.greater
      exact ⟨l2, g1.same (hext.block b.r2 g1.lt a10), g2⟩
    order := ⟨_, hm, hl.put _ _, fun q hq' => by
      unfold putK at hq'
      split at hq'
      · obtain ⟨p, hp, e⟩ := List.mem_map.1 hq'
        split at e
        · rename_i hk
          subst e; exact ⟨i, j, hk, x, y, hi, hj, rfl⟩
        · subst e; exact hq _ hp
      · rcases List.mem_append.1 hq' with hp | hp
        · exact hq _ hp
        · simp at hp; subst hp; exact ⟨i, j, rfl, x, y, hi, hj, rfl⟩⟩ }

end Go.Proofs.Ythmagdibjbadaaa

namespace Go.Proofs.Ythmagdibjbadaaa
open Go.RowKit Sr

theorem lookK_mem {K : Type} [DecidableEq K] {l : List (K × Int)} {k : K} {n : Int} (h : lookK l k = some n) : (k, n) ∈ l := by
  unfold lookK at h
  cases hf : l.find? (fun p => decide (k = p.1)) with
  | none => rw [hf] at h; simp at h
  | some p =>
    rw [hf] at h
    obtain ⟨a, b⟩ := p
    have h1 := List.find?_some hf
    have h2 := List.mem_of_find?_eq_some hf
    simp at h h1
    subst h h1
    exact h2

set_option maxRecDepth 100000 in
set_option maxHeartbeats 4000000 in
theorem cmp_up {U vs : List Int} {b : WB} {i j : Nat} {x y : Int} (hi : vs[i]? = some x) (hj : vs[j]? = some y) (hij : i < j)
    (ih : ∀ (i' j' : Nat) (e f : Nat), e ∈ exps x → f ∈ exps y → vs[i']? = some (e : Int) → vs[j']? = some (f : Int) → ∀ w, WInv w b vs U →
      Calls Try.prog 33 #[.pointer (some ⟨b.p, 0, none⟩), .int .i64 (i' : Int), .int .i64 (j' : Int)] w fun r w' => r = .returned (.int .i64 (sg ((e : Int) - f))) ∧ CS w w' b vs U)
    {w : World} (h : WInv w b vs U) :
    Calls Try.prog 33 #[.pointer (some ⟨b.p, 0, none⟩), .int .i64 (i : Int), .int .i64 (j : Int)] w fun r w' => r = .returned (.int .i64 (sg (x - y))) ∧ CS w w' b vs U := by
  have h1 : ((i : Int) == (j : Int)) = false := by simp; omega
  have h2 : ¬ ((j : Int) < (i : Int)) := by omega
  obtain ⟨l, m1, m2, m3⟩ := h.order
  obtain ⟨W, hW⟩ : ∃ W, W = w.alloc (.cells #[.int .i64 (i : Int), .int .i64 (j : Int)] 97) := ⟨_, rfl⟩
  have hB : Below w.heap.size w W := by rw [hW]; exact (Below.refl _ _).alloc (Nat.le_refl _) _
  have hWi := h.below hB
  obtain ⟨cap, cur, f1, f2, f3, f4, f5, f6⟩ := hWi.forms
  have c0 := cell_of_blk f1 0
  have c3 := cell_of_blk f1 3
  simp only [List.getElem?_toArray, List.getElem?_cons_zero, List.getElem?_cons_succ] at c0 c3
  have hlk : ∀ nq, (Instr.lookup 78 (.map (some b.r3)) (.agg #[.int .i64 (i : Int), .int .i64 (j : Int)]) true).run Try.prog (W.drewN nq) = .ok (.tuple #[.int .i64 ((lookK l ((i : Int), (j : Int))).getD 0), .bool (lookK l ((i : Int), (j : Int))).isSome]) (W.drewN nq) :=
    fun nq => run_lookup_ok kk_pair Try.underlying78 zero_int (w := W.drewN nq) (m1.same (w1 := W.drewN nq) (hB.block b.r3 m1.lt)) ((i : Int), (j : Int))
  have kb : W.heap[w.heap.size]? = some (.cells #[.int .i64 (i : Int), .int .i64 (j : Int)] 97 (0, 0)) := by rw [hW]; exact blk_alloc _ _
  have k0 := cell_of_blk kb 0
  have k1 := cell_of_blk kb 1
  simp only [List.getElem?_toArray, List.getElem?_cons_zero, List.getElem?_cons_succ] at k0 k1
  have hr3 := h.lt b.r3 (.inr (.inr (.inr (.inr rfl))))
  have H := Sealed.mk h; clear h
  have HM := Sealed.mk (And.intro m1 (And.intro m2 m3)); clear m1 m2 m3
  have HW := Sealed.mk hWi; clear hWi
  have HB := Sealed.mk hB; clear hB
  have HI := Sealed.mk (And.intro hi hj); clear hi hj
  have HH := Sealed.mk @ih; clear ih
  cases hl : lookK l ((i : Int), (j : Int)) with
  | some r =>
    rw [hl] at hlk
    simp only [Option.getD_some, Option.isSome_some] at hlk
    have HL := Sealed.mk hl; clear hl
    go_enter Try.func33, Try.ntmps33
    go_wp2_with fail
    rw [← hW]
    clear hW f1 f2 f3 f4 f5 f6 kb
    go_quiet (fail)
    go_wp2
    go_ret
    have e1 : r = sg (x - y) := by
      obtain ⟨i', j', e, x', y', hx', hy', e3⟩ := HM.out.2.2 _ (lookK_mem HL.out)
      simp only [Prod.mk.injEq] at e
      obtain ⟨e1, e2⟩ := e
      obtain rfl : i = i' := by omega
      obtain rfl : j = j' := by omega
      rw [HI.out.1] at hx'
      rw [HI.out.2] at hy'
      obtain rfl := Option.some.inj hx'
      obtain rfl := Option.some.inj hy'
      exact e3
    have hd : WInv (W.drewN nq) b vs U := HW.out.ext (N := noB) ((Ext.refl _ _).drewN _) fun _ hn _ => hn
    exact ⟨by show Ending.returned (.int .i64 r) = _; rw [e1], hd, ((Ext.of_below HB.out).drewN _)⟩
  | none =>
    rw [hl] at hlk
    simp only [Option.getD_none, Option.isSome_none] at hlk
    clear hl
    obtain ⟨v1, g1, t1, o1⟩ := f6 i x HI.out.1
    obtain ⟨v2, g2, t2, o2⟩ := f6 j y HI.out.2
    have d1 : W.cell? ⟨b.f, i, none⟩ = some v1 := by rw [cell_of_blk f2]; exact g1
    have d2 : W.cell? ⟨b.f, j, none⟩ = some v2 := by rw [cell_of_blk f2]; exact g2
    have l1 : i < vs.length := (List.getElem?_eq_some_iff.1 HI.out.1).1
    have l2 : j < vs.length := (List.getElem?_eq_some_iff.1 HI.out.2).1
    have hap := HW.out.apart
    have ht : ∀ w1 : World, CS W w1 b vs U → TL w1 v1 (enc vs x) ∧ TL w1 v2 (enc vs y) := fun w1 k =>
      ⟨t1.ext k.ext fun q hq e => o1 q hq (.inr (.inr (.inr (.inr e)))), t2.ext k.ext fun q hq e => o2 q hq (.inr (.inr (.inr (.inr e))))⟩
    have HT := Sealed.mk ht; clear ht t1 t2 o1 o2 g1 g2
    have hd : ∀ q, (enc vs x).take q = (enc vs y).take q → (enc vs x)[q]? ≠ (enc vs y)[q]? → ∀ w1, WInv w1 b vs U → Calls Try.prog 44 #[.pointer (some ⟨b.p, 0, none⟩), aggT (enc vs x) q, aggT (enc vs y) q, .bool (decide (q < (enc vs x).length)), .bool (decide (q < (enc vs y).length))] w1
        fun e w' => e = .returned (.int .i64 (sg (x - y))) ∧ CS w1 w' b vs U := by
      intro q q1 q2 w1 hw1
      have hx := hw1.cl.cov (List.mem_of_getElem? HI.out.1)
      have hy := hw1.cl.cov (List.mem_of_getElem? HI.out.2)
      obtain ⟨c, hc, e1, e2⟩ := decide_enc hx hy q1 q2
      rw [e1]
      refine differ_any hw1 _ _ _ _ c hc fun b1 b2 w2 hw2 => ?_
      obtain ⟨e, f, r1, r2, r3, r4, rfl⟩ := e2 (by simpa using b1) (by simpa using b2)
      exact HH.out _ _ e f r1 r2 r3 r4 w2 hw2
    have hne : enc vs x ≠ enc vs y := fun e => by
      have hx := HW.out.cl.cov (List.mem_of_getElem? HI.out.1)
      have e1 := enc_inj hx e
      have e2 := idxOf_of HW.out.cl.nodup HI.out.1
      have e3 := idxOf_of HW.out.cl.nodup HI.out.2
      rw [e1] at e2
      omega
    have hcomp : ∀ w1, CS W w1 b vs U → Calls Try.prog 43 #[v1, v2, .func (.func 44) #[.pointer (some ⟨b.p, 0, none⟩)] #[]] w1 fun r w' => r = .returned (.int .i64 (sg (x - y))) ∧ CS w1 w' b vs U := fun w1 k =>
      compared_any k.inv (HT.out w1 k).1 (HT.out w1 k).2 hne hd
    have HCO := Sealed.mk hcomp; clear hcomp hd hne
    have k1' : ∀ w1 w2 : World, (w1.cell? ⟨b.p, 0, none⟩ = some (.slice (some ⟨b.f, 0, none⟩) vs.length cap) ∧ w1.cell? ⟨b.f, i, none⟩ = some v1 ∧ w1.cell? ⟨b.f, j, none⟩ = some v2 ∧ CS W w1 b vs U) → CS w1 w2 b vs U →
        (w2.cell? ⟨b.p, 0, none⟩ = some (.slice (some ⟨b.f, 0, none⟩) vs.length cap) ∧ w2.cell? ⟨b.f, i, none⟩ = some v1 ∧ w2.cell? ⟨b.f, j, none⟩ = some v2 ∧ CS W w2 b vs U) := fun w1 w2 h k =>
      ⟨k.cell h.1 hap.2.2.2.1, k.cell h.2.1 hap.2.2.2.2.2.2.1, k.cell h.2.2.1 hap.2.2.2.2.2.2.1, h.2.2.2.trans k⟩
    have K1 := Sealed.mk k1'; clear k1'
    have HAP := Sealed.mk hap; clear hap
    go_enter Try.func33, Try.ntmps33
    go_wp2_with fail
    rw [← hW]
    clear hW f1 f2 f3 f4 f5 f6 kb
    go_quiet (fail)
    go_wp2_with fail
    obtain ⟨W1, hW1⟩ : ∃ W1, W1 = W.drewN nq := ⟨_, rfl⟩
    have hs1 : CS W W1 b vs U := by
      rw [hW1]
      exact ⟨HW.out.ext (N := noB) ((Ext.refl _ _).drewN _) fun _ hn _ => hn, (Ext.refl _ _).drewN _⟩
    have hself : CS W W1.drew b vs U := hs1.trans ⟨hs1.inv.ext (N := noB) ((Ext.refl _ _).drew) fun _ hn _ => hn, (Ext.refl _ _).drew⟩
    have c0' : W1.cell? ⟨b.p, 0, none⟩ = some (.slice (some ⟨b.f, 0, none⟩) vs.length cap) := by rw [hW1]; exact c0
    have d1' : W1.cell? ⟨b.f, i, none⟩ = some v1 := by rw [hW1]; exact d1
    have d2' : W1.cell? ⟨b.f, j, none⟩ = some v2 := by rw [hW1]; exact d2
    have hs3 : ∀ w', CS W w' b vs U → (w'.cell? ⟨b.p, 3, none⟩ = some (.map (some b.r3)) ∧ w'.cell? ⟨w.heap.size, 0, none⟩ = some (.int .i64 (i : Int)) ∧ w'.cell? ⟨w.heap.size, 1, none⟩ = some (.int .i64 (j : Int))) := fun w' k =>
      ⟨k.cell c3 HAP.out.2.2.2.1, k.cell k0 (by omega), k.cell k1 (by omega)⟩
    have HS3 := Sealed.mk hs3; clear hs3
    rw [← hW1]
    clear hW1 hlk c0 c3 k0 k1 d1 d2
    have HS1 := Sealed.mk hs1; clear hs1
    have HSELF := Sealed.mk hself; clear hself
    go_region_held3 (fun w' => w'.cell? ⟨b.p, 0, none⟩ = some (.slice (some ⟨b.f, 0, none⟩) vs.length cap) ∧ w'.cell? ⟨b.f, i, none⟩ = some v1 ∧ w'.cell? ⟨b.f, j, none⟩ = some v2 ∧ CS W w' b vs U)
      (first | exact ⟨c0', d1', d2', HSELF.out⟩ | exact K1.out _ _ (by assumption) (by assumption))
      (first | (go_at_call 43; go_must (refine (HCO.out _ ?_).mono ?_; exact (by assumption : _ ∧ _ ∧ _ ∧ CS _ _ b vs U).2.2.2; rintro e w1 ⟨rfl, hb⟩)))
    have hcs : CS W w1.drew b vs U := (by assumption : _ ∧ _ ∧ _ ∧ CS W w1 b vs U).2.2.2.trans ⟨hb.inv.ext (N := noB) ((Ext.refl _ _).drew) fun _ hn _ => hn, (Ext.refl _ _).drew⟩
    obtain ⟨e0, e1, e2⟩ := HS3.out _ hcs
    obtain ⟨l', q1, q2, q3⟩ := hcs.inv.order
    have HCS := Sealed.mk hcs; clear hcs
    have HQ := Sealed.mk (And.intro q1 (And.intro q2 q3)); clear q1 q2 q3
    clear hb c0' d1' d2'
    go_wp2_with fail
    refine wp_region_still_tail 6 (by kernel_rfl) (by kernel_rfl) ?_
    simp only [List.take_succ_cons, List.take_zero, List.drop_succ_cons, List.drop_zero]
    repeat still_step
    refine wpStill_nil ?_
    change wpList _ _ _ _ _ w1.drew
    refine wp_update kk_pair Try.underlying78 (.tmp 55) (.tmp 56) (.tmp 57) rfl rfl HQ.out.2.1 (l := l') (r := b.r3) HQ.out.1 ((i : Int), (j : Int)) (sg (x - y)) rfl rfl rfl ?_
    intro w3 hm3 hg3
    have hcs3 := HCS.out.trans (order_done HCS.out.inv HQ.out.2.1 HQ.out.2.2 HI.out.1 HI.out.2 hm3 hg3)
    have HC3 := Sealed.mk hcs3; clear hcs3 hm3 hg3
    go_wp2
    go_ret
    exact ⟨rfl, HC3.out.inv, (Ext.of_below HB.out).trans HC3.out.ext fun _ hk => .inl hk⟩

theorem sg_neg (z : Int) : sg (-z) = -sg z := by unfold sg; split <;> split <;> (try split) <;> (try split) <;> omega

set_option maxRecDepth 100000 in
set_option maxHeartbeats 4000000 in
theorem cmp_down {U vs : List Int} {b : WB} {i j : Nat} {x y : Int} (hij : j < i)
    (hup : ∀ w, WInv w b vs U → Calls Try.prog 33 #[.pointer (some ⟨b.p, 0, none⟩), .int .i64 (j : Int), .int .i64 (i : Int)] w fun r w' => r = .returned (.int .i64 (sg (y - x))) ∧ CS w w' b vs U)
    {w : World} (h : WInv w b vs U) :
    Calls Try.prog 33 #[.pointer (some ⟨b.p, 0, none⟩), .int .i64 (i : Int), .int .i64 (j : Int)] w fun r w' => r = .returned (.int .i64 (sg (x - y))) ∧ CS w w' b vs U := by
  have h1 : ((i : Int) == (j : Int)) = false := by simp; omega
  have h2 : (j : Int) < (i : Int) := by omega
  have H := Sealed.mk h; clear h
  have HU := Sealed.mk hup; clear hup
  go_enter Try.func33, Try.ntmps33
  go_wp2_with (go_at_call 33; go_must (refine (HU.out _ H.out).mono ?_; rintro r w1 ⟨rfl, hcs⟩))
  go_ret
  refine ⟨?_, hcs⟩
  have e1 : wrap64 (-sg (y - x)) = sg (x - y) := by
    rw [show x - y = -(y - x) by omega, sg_neg]
    have := sg_abs (y - x)
    unfold wrap64; omega
  show Ending.returned (.int .i64 (wrap64 (-sg (y - x)))) = _
  rw [e1]

set_option maxRecDepth 100000 in
theorem cmp_same {U vs : List Int} {b : WB} {i : Nat} {w : World} (h : WInv w b vs U) :
    Calls Try.prog 33 #[.pointer (some ⟨b.p, 0, none⟩), .int .i64 (i : Int), .int .i64 (i : Int)] w fun r w' => r = .returned (.int .i64 0) ∧ CS w w' b vs U := by
  have H := Sealed.mk h; clear h
  go_enter Try.func33, Try.ntmps33
  go_wp2
  go_ret
  exact ⟨rfl, CS.refl H.out⟩

theorem cmp_all (n : Nat) : ∀ {U vs : List Int} {b : WB} {i j : Nat} {x y : Int}, x.natAbs + y.natAbs < n → vs[i]? = some x → vs[j]? = some y → ∀ w, WInv w b vs U →
    Calls Try.prog 33 #[.pointer (some ⟨b.p, 0, none⟩), .int .i64 (i : Int), .int .i64 (j : Int)] w fun r w' => r = .returned (.int .i64 (sg (x - y))) ∧ CS w w' b vs U := by
  induction n with
  | zero => intro U vs b i j x y h; omega
  | succ n ih =>
    intro U vs b i j x y hn hi hj w h
    have up : ∀ {i j : Nat} {x y : Int}, x.natAbs + y.natAbs < n + 1 → vs[i]? = some x → vs[j]? = some y → i < j → ∀ w, WInv w b vs U →
        Calls Try.prog 33 #[.pointer (some ⟨b.p, 0, none⟩), .int .i64 (i : Int), .int .i64 (j : Int)] w fun r w' => r = .returned (.int .i64 (sg (x - y))) ∧ CS w w' b vs U := by
      intro i j x y hn hi hj hij w h
      refine cmp_up hi hj hij (fun i' j' e f he hf h1 h2 w hw => ih ?_ h1 h2 w hw) h
      have := exps_lt he
      have := exps_lt hf
      simp only [Int.natAbs_natCast]
      omega
    rcases Nat.lt_trichotomy i j with hij | hij | hij
    · exact up hn hi hj hij w h
    · subst hij
      rw [hi] at hj
      obtain rfl := Option.some.inj hj
      have := cmp_same (i := i) h
      rw [show x - x = 0 by omega]
      exact this
    · exact cmp_down hij (fun w hw => up (by omega) hj hi hij w hw) h

/-- THE ORDER OF TWO NUMBERS -/
theorem cmp_any {U vs : List Int} {b : WB} {i j : Nat} {x y : Int} (hi : vs[i]? = some x) (hj : vs[j]? = some y) {w : World} (h : WInv w b vs U) :
    Calls Try.prog 33 #[.pointer (some ⟨b.p, 0, none⟩), .int .i64 (i : Int), .int .i64 (j : Int)] w fun r w' => r = .returned (.int .i64 (sg (x - y))) ∧ CS w w' b vs U :=
  cmp_all _ (Nat.lt_succ_self _) hi hj w h

end Go.Proofs.Ythmagdibjbadaaa
