/- num.world.give -/
import Derived.Test.YtgchfbfgjanaiaaJ04
import Derived.Test.YtgchfbfgjanaiaaJ22
import Derived.Deep.RegionHeld3
import Derived.Deep.RegionLaw
import Derived.WideLaws
set_option linter.unusedSimpArgs false
set_option linter.unusedVariables false
namespace Go.Proofs.Ytgchfbfgjanaiaa
open Go.RowKit Sr
theorem run_store_func (P : Program) (f : Fn) (x y : Array Value) (a : Addr) (m : Mode) (w : World) : (store a (.func f x y) m).run P w = stored P w a (.func f x y) m := run_store P w a _ m rfl
theorem seven {α : Type} (h : Array α) (a b c d e f g : α) : ∀ r, r = (((((((h.push a).push b).push c).push d).push e).push f).push g) → r.size = h.size + 7 ∧ r[h.size]? = some a ∧ r[h.size + 1]? = some b ∧ r[h.size + 2]? = some c ∧ r[h.size + 3]? = some d ∧ r[h.size + 4]? = some e ∧ r[h.size + 5]? = some f ∧ r[h.size + 6]? = some g := by
  rintro r rfl
  refine ⟨by simp, ?_, ?_, ?_, ?_, ?_, ?_, ?_⟩ <;> simp only [Array.getElem?_push, Array.size_push] <;> (repeat rw [if_neg (by omega)]) <;> simp
def GiveOut (U : List Int) (w : World) (b : WB) (vs : List Int) (x : Int) (e : Ending) (w' : World) : Prop :=
  WInv w' b vs U ∧ Ext (fun k => k = b.r3) w w' ∧ ∃ u, (Allowed x ∧ e = .returned (.tuple #[u, .int .i64 0]) ∧ NumIs w' u x) ∨ (¬ Allowed x ∧ e = .returned (.tuple #[.agg #[.pointer none], .int .i64 5]))
set_option maxRecDepth 100000 in
set_option maxHeartbeats 4000000 in
theorem give_any {w : World} {b : WB} {vs U : List Int} (h : WInv w b vs U) {v : Value} {x : Int} (hl : TL w v (enc vs x)) (hc : Cov vs x) :
    Calls Try.prog 56 #[.pointer (some ⟨b.p, 0, none⟩), v] w (GiveOut U w b vs x) := by
  obtain ⟨a, n, c, rfl⟩ := hl.slice
  have hn : n = (form x).length := by have := hl.cells.1; rw [this]; simp [enc]
  have hmm := @run_makeMap Try.prog
  have H := Sealed.mk (And.intro h (And.intro hl hc)); clear h hl hc
  by_cases h0 : n = 0
  · subst h0
    have HN := Sealed.mk hn; clear hn
    go_enter Try.func56, Try.ntmps56
    go_wp2_with fail
    have hx : x = 0 := by
      have := HN.out
      exact form_eq_nil.1 (List.eq_nil_of_length_eq_zero this.symm)
    have hb : ∀ o1 o2 : Obj, Below w.heap.size w ((w.alloc o1).alloc o2) := fun o1 o2 => ((Below.refl _ _).alloc (Nat.le_refl _) _).alloc (by simp) _
    refine bodyPost_ret (v := .tuple #[.agg #[.pointer none], .int .i64 0]) (by simp [results, Try.results56, go_sem]) rfl ⟨H.out.1.below (hb _ _), Ext.of_below (hb _ _), _, .inl ⟨by rw [hx]; exact allowed_zero, rfl, by rw [hx]; exact NumIs.zero _⟩⟩
  · by_cases h3 : 300 < n
    · have HN := Sealed.mk hn; clear hn
      have h01 : ((n : Int) == 0) = false := by simp; omega
      go_enter Try.func56, Try.ntmps56
      go_wp2_with fail
      have hna : ¬ Allowed x := fun hA => by have := hA.1; have := HN.out; omega
      have hb : ∀ o1 o2 : Obj, Below w.heap.size w ((w.alloc o1).alloc o2) := fun o1 o2 => ((Below.refl _ _).alloc (Nat.le_refl _) _).alloc (by simp) _
      refine bodyPost_ret (v := .tuple #[.agg #[.pointer none], .int .i64 5]) (by simp [results, Try.results56, go_sem]) rfl ⟨H.out.1.below (hb _ _), Ext.of_below (hb _ _), .bool true, .inr ⟨hna, rfl⟩⟩
    · have HN := Sealed.mk hn; clear hn
      have h01 : ((n : Int) == 0) = false := by simp; omega
      have hsf := run_store_func Try.prog
      go_enter Try.func56, Try.ntmps56
      go_wp2_with fail
      obtain ⟨s, hs⟩ : ∃ s, s = w.heap.size := ⟨_, rfl⟩
      obtain ⟨g, hg⟩ : ∃ g : GB, g = ⟨s + 3, s + 5, s, s + 4, s + 6, s + 2, s + 7⟩ := ⟨_, rfl⟩
      obtain ⟨W1, hW1⟩ : ∃ W1, W1 = World.alloc (World.alloc (World.alloc (World.alloc (World.alloc (World.alloc (World.alloc w (.cells #[.pointer (some ⟨b.p, 0, none⟩)] 94)) (.cells #[.pointer none] 30)) (.map #[] 0)) (.cells #[.map (some (s + 1 + 1))] 104)) (.cells #[.slice none 0 0] 57)) (.cells #[.bool true] 4)) (.cells #[.func (.func 90) #[] g.free] 100) := ⟨_, rfl⟩
      have h7 := seven w.heap _ _ _ _ _ _ _ W1.heap (by rw [hW1]; rfl)
      rw [← hs] at h7
      have hb1 : Below w.heap.size w W1 := by
        rw [hW1]
        have st : ∀ (W : World) (o : Obj), Below w.heap.size w W → Below w.heap.size w (W.alloc o) := fun W o h => h.alloc h.size o
        exact st _ _ (st _ _ (st _ _ (st _ _ (st _ _ (st _ _ (st _ _ (Below.refl _ _)))))))
      obtain ⟨hsz, v0, v1, v2, v3, v4, v5, v6⟩ := h7
      have V1 := Sealed.mk (And.intro v1 hsz); clear v1
      have hgo : g.Ok w.heap.size := by rw [hg]; exact ⟨by simp only; omega, by simp only; omega, by simp, by simp, by simp⟩
      have hgm : GM g b.p vs W1 true [] [] := by
        rw [hg] at v6 ⊢
        exact ⟨⟨_, v3⟩, ⟨_, v5⟩, ⟨_, v0⟩, ⟨_, v6⟩, ⟨.slice none 0 0, ⟨_, v4⟩, rfl, .inl ⟨rfl, rfl⟩⟩, ⟨#[], 0, v2, rfl⟩, by rw [hsz]; exact Nat.le_refl _⟩
      have hwk := walk_any hgo H.out.1 H.out.2.2 _ (Nat.lt_succ_self x.natAbs) (fun e he => .here he) H.out.2.2 H.out.2.1 hb1 hgm (GP.nil vs x)
      have e1 : pt g.bh = .pointer (some ⟨w.heap.size + 1 + 1 + 1, 0, none⟩) := by rw [hg, hs]; rfl
      have e2 : pt g.bo = .pointer (some ⟨w.heap.size + 1 + 1 + 1 + 1 + 1, 0, none⟩) := by rw [hg, hs]; rfl
      have e3 : pt g.bw = .pointer (some ⟨w.heap.size, 0, none⟩) := by rw [hg, hs]; rfl
      have e4 : pt g.bp = .pointer (some ⟨w.heap.size + 1 + 1 + 1 + 1, 0, none⟩) := by rw [hg, hs]; rfl
      have e5 : pt g.bk = .pointer (some ⟨w.heap.size + 1 + 1 + 1 + 1 + 1 + 1, 0, none⟩) := by rw [hg, hs]; rfl
      unfold GB.free at hW1
      rw [e1, e2, e3, e4, e5, hs] at hW1
      rw [e1, e2, e3, e4, e5] at hwk
      rw [← hW1]
      have HWK := Sealed.mk hwk; clear hwk
      have HB1 := Sealed.mk hb1; clear hb1
      have HGM := Sealed.mk (And.intro hgo (And.intro hgm hg)); clear hgo hgm hg v0 v2 v3 v4 v5 v6 hsz hW1 e1 e2 e3 e4 e5
      go_upto_region 11 with (go_at_call 90; go_must (refine HWK.out.mono ?_; rintro e' w2 ⟨ok, ps, hl, hh, rfl, gs2, gm2, gp2, s2a, s2b, s2c⟩))
      have htest := gp2.test (fun ho => (s2c ho).2) (by have := HN.out; omega)
      have hgl := HGM.out.2.2
      have c8 : w2.cell? ⟨w.heap.size + 1 + 1 + 1 + 1 + 1, 0, none⟩ = some (.bool ok) := by have := gm2.co.cell; rw [hgl, hs] at this; exact this
      obtain ⟨pv, hpv, hpown⟩ := gm2.cp
      obtain ⟨pa, pc, rfl⟩ := own_slice hpown
      have c7 : w2.cell? ⟨w.heap.size + 1 + 1 + 1 + 1, 0, none⟩ = some (.slice pa ps.length pc) := by have := hpv.cell; rw [hgl, hs] at this; exact this
      have hpl := gp2.length
      have hpl2 := H.out.1.cl.plist_length H.out.2.2
      have hpl3 := H.out.1.length
      unfold roomW at hpl3
      have H2 := Sealed.mk (And.intro gs2 (And.intro gm2 (And.intro gp2 (And.intro s2c (And.intro hpv hpown))))); clear gs2 gm2 gp2 s2a s2b s2c hpv hpown
      have HT := Sealed.mk htest; clear htest
      have n1 : ¬ GX g W1 (s + 1) := fun hx => by
        rw [hgl] at hx
        rcases hx with e | e | e | ⟨pv, h1, h2⟩
        · have e' : s + 1 = s + 5 := e; omega
        · have e' : s + 1 = s + 4 := e; omega
        · have e' : s + 1 = s + 2 := e; omega
        · obtain ⟨pv', h3, h4⟩ := HGM.out.2.1.cp
          rw [hgl] at h3
          rw [h1.one h3] at h2
          have := (h4.lt _ h2).1
          rw [hgl] at this
          have this' : s + 7 ≤ s + 1 := this
          omega
      have v1' := H2.out.1.ext.get V1.out.1 n1
      rw [hs] at v1'
      have c1 : w2.cell? ⟨w.heap.size + 1, 0, none⟩ = some (.pointer none) := by rw [cell_of_blk v1']; rfl
      have f1 : w2.frozen? ⟨w.heap.size + 1, 0, none⟩ = false := frozen_of_blk v1' 0
      have HV1 := Sealed.mk (And.intro v1' n1); clear v1' n1
      clear hgl
      have HS := Sealed.mk hs; clear hs
      clear hsf
      by_cases hA : Allowed x
      · obtain ⟨rfl, t2, t3⟩ := HT.out.1 hA
        have HA := Sealed.mk hA; clear hA
        have hin2 : WInv w2 b vs U := H.out.1.below (HB1.out.trans (H2.out.1.below HGM.out.2.1 HGM.out.1))
        have hmem := H2.out.2.2.1.mem (H2.out.2.2.2.1 rfl).2.1
        have c2 : w2.cell? ⟨w.heap.size, 0, none⟩ = some (.pointer (some ⟨b.p, 0, none⟩)) := by
          have := H2.out.2.1.cw.cell
          rw [HGM.out.2.2, HS.out] at this
          exact this
        have hsort := sort_any hin2 (B := g.B) (v := .slice pa ps.length pc) (xs := ps.map fun e : Nat => vs.idxOf (e : Int)) (by rw [List.length_map]; exact H2.out.2.2.2.2.2) (fun q hq => by
          obtain ⟨e, he, rfl⟩ := List.mem_map.1 hq
          exact List.idxOf_lt_length_of_mem (H2.out.2.2.1.there e he)) (by
          have hnd := H2.out.2.2.1.nodup
          unfold List.Nodup at hnd ⊢
          rw [List.pairwise_map]
          refine List.Pairwise.imp_of_mem ?_ hnd
          intro e f he hf hne q
          have := idxOf_inj (H2.out.2.2.1.there e he) q
          omega) (by rw [List.length_map]; omega) (fun q hq => (H.out.1.fresh (q := q) (by
          have h1 := (H2.out.2.2.2.2.2.lt q hq).1
          have h3 := HGM.out.1.high
          have h4 := HGM.out.1.low
          omega)).same (Ext.of_below (M := noB) (HB1.out.trans (H2.out.1.below HGM.out.2.1 HGM.out.1))) (H.out.1.lt b.f (.inr (.inl rfl))) fun e => e)
        have HSO := Sealed.mk hsort; clear hsort
        have HMEM := Sealed.mk hmem; clear hmem
        have HI2 := Sealed.mk hin2; clear hin2
        go_upto_region 15 with (first | (go_at_call 91; go_must (refine HSO.out.mono ?_; rintro e' w3 ⟨rfl, hi3, hx3, ys, hp3, hr3, ho3⟩)))
        have hys := sorted_parts (fun e he => H2.out.2.2.1.there e he) HMEM.out hp3 hr3
        have d7 : w3.cell? ⟨w.heap.size + 1 + 1 + 1 + 1, 0, none⟩ = some (.slice pa ps.length pc) := by
          rw [cell_same (hx3.block _ (lt_of_cell c7) fun hq => ?_)]
          · exact c7
          · rcases hq with e | e
            · have := H.out.1.lt b.r3 (.inr (.inr (.inr (.inr rfl)))); omega
            · have h1 := (H2.out.2.2.2.2.2.lt _ e).1
              have h3 := HGM.out.1.high
              rw [HGM.out.2.2] at h1
              have h1' : s + 7 ≤ w.heap.size + 1 + 1 + 1 + 1 := h1
              have := HS.out
              omega
        have H3 := Sealed.mk (And.intro hi3 (And.intro hx3 (And.intro hys ho3))); clear hi3 hx3 hp3 hr3 hys ho3
        have hlt7 := lt_of_cell d7
        obtain ⟨W4, hW4⟩ : ∃ W4, W4 = World.alloc (World.alloc (World.alloc w3 (.map #[] 0)) (.cells #[.map (some w3.heap.size)] 104)) (.cells #[.slice none 0 0, .slice none 0 0] 128) := ⟨_, rfl⟩
        have hb4 : Below w3.heap.size w3 W4 := by
          rw [hW4]
          have st : ∀ (W : World) (o : Obj), Below w3.heap.size w3 W → Below w3.heap.size w3 (W.alloc o) := fun W o h => h.alloc h.size o
          exact st _ _ (st _ _ (st _ _ (Below.refl _ _)))
        have k7 : W4.cell? ⟨w.heap.size + 1 + 1 + 1 + 1, 0, none⟩ = some (.slice pa ps.length pc) := by rw [cell_same (hb4.block _ hlt7)]; exact d7
        have hm4 : W4.heap[w3.heap.size]? = some (.map #[] 0) := by
          rw [hW4]; exact blk_alloc_old (blk_alloc_old (blk_alloc w3 _) _) _
        have ht4 : W4.heap[w3.heap.size + 1]? = some (.cells #[.map (some w3.heap.size)] 104 (0, 0)) := by
          rw [hW4]; refine blk_alloc_old ?_ _; simpa using blk_alloc (w3.alloc (.map #[] 0)) (.cells #[.map (some w3.heap.size)] 104)
        have hn4 : W4.heap[w3.heap.size + 1 + 1]? = some (.cells #[.slice none 0 0, .slice none 0 0] 128 (0, 0)) := by
          rw [hW4]; simpa using blk_alloc ((w3.alloc (.map #[] 0)).alloc (.cells #[.map (some w3.heap.size)] 104)) (.cells #[.slice none 0 0, .slice none 0 0] 128)
        have H4 := Sealed.mk (And.intro hb4 (And.intro hm4 (And.intro ht4 hn4))); clear hb4 hm4 ht4 hn4
        go_upto_region 17 with fail
        rw [← hW4]
        clear hW4 d7 c7 c8
        obtain ⟨np, hnp⟩ : ∃ np, np = ps.length := ⟨_, rfl⟩
        rw [← hnp] at k7
        have hcount : np = (plist x).length := by rw [hnp]; exact H2.out.2.2.1.count (H2.out.2.2.2.1 (by trivial)).2.1
        obtain ⟨nb, hnb⟩ : ∃ nb, nb = w3.heap.size + 1 + 1 := ⟨_, rfl⟩
        have hpl0 : PL W4 W4 vs x w3.heap.size nb 0 0 := ⟨Ext.refl _ _, ⟨[], ⟨#[], 0, H4.out.2.1, rfl⟩, by simpa using Tab.nil vs⟩, ⟨.slice none 0 0, [], by rw [hnb]; exact H4.out.2.2.2, ⟨rfl, .inl ⟨rfl, rfl⟩⟩, rfl, by simp⟩⟩
        have s4 : w3.heap.size + 3 ≤ W4.heap.size := by have := lt_of_blk H4.out.2.2.2; omega
        have s3 : w.heap.size ≤ w3.heap.size := by have := H3.out.2.1.size; have := H2.out.1.ext.size; have := HB1.out.size; omega
        have HNP := Sealed.mk (And.intro hnp (And.intro hcount hnb)); clear hnp hcount
        have HPL0 := Sealed.mk hpl0; clear hpl0
        have hnpl : np ≤ roomW := by rw [HNP.out.1]; unfold roomW; omega
        unfold roomW at hnpl
        clear hpl hpl2 hpl3 c1 f1 c2
        go_wp2_with fail
        go_loopg [52] np (fun j iv W => ∃ k : Nat, j = np - k ∧ k ≤ np ∧ iv = .int .i64 (k : Int) ∧ PL W4 W vs x w3.heap.size nb k k)
        case atStart => exact ⟨0, rfl, Nat.zero_le _, rfl, HPL0.out⟩
        case round =>
          obtain ⟨k, rfl, hk, rfl, hpl⟩ := hrel
          by_cases hkn : k < np
          · obtain ⟨e, he⟩ : ∃ e, (plist x)[k]? = some e := ⟨_, List.getElem?_eq_getElem (by have := HNP.out.2.1; omega)⟩
            have hep : Part e x := mem_plist.1 (List.mem_of_getElem? he)
            have hev : (e : Int) ∈ vs := H.out.1.cl.parts H.out.2.2 hep
            obtain ⟨q, hq⟩ : ∃ q : Nat, q = vs.idxOf (e : Int) := ⟨_, rfl⟩
            have hyk : (icells ((plist x).map fun e : Nat => vs.idxOf (e : Int)))[k]? = some (.int .i64 (q : Int)) := by simp [icells, he, hq]
            have hown3 := H3.out.2.2.2
            rw [H3.out.2.2.1, ← HNP.out.1, List.length_map, ← HNP.out.2.1] at hown3
            obtain ⟨gb, cap3, e1⟩ := own_form hown3 (by omega)
            obtain ⟨rfl, _, rfl⟩ := Value.slice.inj e1
            have hgb := own_block hown3 gb rfl
            have hbw : Below w3.heap.size w3 wr := H4.out.1.trans ⟨hpl.ext.os, hpl.ext.tape, hpl.ext.output, hpl.ext.size, fun z hz => hpl.ext.block z (by omega) (by have := HNP.out.2.2; omega)⟩
            have c5 : wr.cell? ⟨gb, k, none⟩ = some (.int .i64 (q : Int)) := by rw [cell_same (hbw.block gb hgb.2)]; exact own_cell hown3 rfl hyk
            have hx4 : ∀ z, z < W4.heap.size → z ≠ w3.heap.size → z ≠ nb → wr.heap[z]? = W4.heap[z]? := fun z h1 h2 h3 => hpl.ext.block z h1 (by omega)
            have ht5 : wr.heap[w3.heap.size + 1]? = some (.cells #[.map (some w3.heap.size)] 104 (0, 0)) := (hx4 _ (by omega) (by omega) (by have := HNP.out.2.2; omega)).trans H4.out.2.2.1
            have ct : wr.cell? ⟨w3.heap.size + 1, 0, none⟩ = some (.map (some w3.heap.size)) := by rw [cell_of_blk ht5]; rfl
            obtain ⟨tl, htm, htt⟩ := hpl.tab
            have hne : e ∉ (plist x).take k := by
              intro h
              have hnd := plist_nodup x
              rw [← List.take_append_drop k (plist x)] at hnd
              rw [List.nodup_append] at hnd
              refine hnd.2.2 e h e ?_ rfl
              rw [List.mem_drop_iff_getElem]
              obtain ⟨h1, h2⟩ := List.getElem?_eq_some_iff.1 he
              exact ⟨0, by omega, by simpa using h2⟩
            have hlen : ((plist x).take k).length = k := by rw [List.length_take]; have := HNP.out.2.1; omega
            have htt2 : Tab vs ((plist x).take (k + 1)) (putK tl (q : Int) (k : Int)) := by
              have := htt.push hev hne
              rw [hlen, ← hq] at this
              rw [take_snoc he]
              exact this
            have HE := Sealed.mk (And.intro he (And.intro hep (And.intro hev hq))); clear he hep hev hq hyk hne hlen
            have HT5 := Sealed.mk (And.intro htm (And.intro htt (And.intro htt2 ht5))); clear htm htt htt2 ht5
            have HPL := Sealed.mk (And.intro hpl (And.intro hbw hx4)); clear hpl hbw hx4 hown3 e1
            go_wp2_with (refine wp_update kk_int Try.underlying104 (.tmp 57) (.tmp 58) (.tmp 59) rfl rfl HT5.out.2.1.apart (l := tl) (r := w3.heap.size) HT5.out.1 (q : Int) (k : Int) rfl rfl rfl ?_)
            intro w5 hm5 hg5
            have hmW : w3.heap.size < W4.heap.size := by omega
            have hnW : nb < W4.heap.size := by omega
            have hpl5 := HPL.out.1.table hmW hnW (by omega) hg5 hm5 HT5.out.2.2.1
            have hx5 : Ext (fun z => w3.heap.size ≤ z) w3 w5 := (Ext.of_below (M := fun z => w3.heap.size ≤ z) HPL.out.2.1).grown hg5 fun z hz => .inl (by have := Option.some.inj hz; omega)
            obtain ⟨cap, cur, f1, f2, f3, f4, f5, f6⟩ := H3.out.1.forms
            obtain ⟨fv, g1, t1, -⟩ := f6 q _ (by rw [HE.out.2.2.2]; exact idxOf_get HE.out.2.2.1)
            obtain ⟨fa, fn, fc, rfl⟩ := t1.slice
            have hfn : fn = (enc vs (e : Int)).length := t1.cells.1
            have hfc : fn ≤ 100000 := t1.cells.2.1
            have d0 : w3.cell? ⟨b.p, 0, none⟩ = some (.slice (some ⟨b.f, 0, none⟩) vs.length cap) := by rw [cell_of_blk f1]; rfl
            have d1 : w3.cell? ⟨b.f, q, none⟩ = some (.slice fa fn fc) := by rw [cell_of_blk f2]; exact g1
            have hql : q < vs.length := by rw [HE.out.2.2.2]; exact List.idxOf_lt_length_of_mem HE.out.2.2.1
            have d2 : w3.cell? ⟨w.heap.size, 0, none⟩ = some (.pointer (some ⟨b.p, 0, none⟩)) := by
              have c2 := H2.out.2.1.cw.cell
              rw [HGM.out.2.2, HS.out] at c2
              rw [cell_same (H3.out.2.1.block _ (lt_of_cell c2) fun hq => ?_)]
              · exact c2
              · rcases hq with e | e
                · have e' : w.heap.size = b.r3 := e
                  have := H.out.1.lt b.r3 (.inr (.inr (.inr (.inr rfl)))); omega
                · have h1 := (H2.out.2.2.2.2.2.lt _ e).1
                  rw [HGM.out.2.2] at h1
                  have h1' : s + 7 ≤ w.heap.size := h1
                  have := HS.out
                  omega
            have hks : ∀ w', Ext (fun z => w3.heap.size ≤ z) w3 w' → (w'.cell? ⟨w.heap.size, 0, none⟩ = some (.pointer (some ⟨b.p, 0, none⟩)) ∧ w'.cell? ⟨b.p, 0, none⟩ = some (.slice (some ⟨b.f, 0, none⟩) vs.length cap) ∧ w'.cell? ⟨b.f, q, none⟩ = some (.slice fa fn fc)) := fun w' hx =>
              ⟨by rw [cell_same (hx.block _ (lt_of_cell d2) (fun h => absurd h (Nat.not_le.2 (lt_of_cell d2))))]; exact d2, by rw [cell_same (hx.block _ (lt_of_cell d0) (fun h => absurd h (Nat.not_le.2 (lt_of_cell d0))))]; exact d0, by rw [cell_same (hx.block _ (lt_of_cell d1) (fun h => absurd h (Nat.not_le.2 (lt_of_cell d1))))]; exact d1⟩
            have ht5 : w5.heap[w3.heap.size + 1]? = some (.cells #[.map (some w3.heap.size)] 104 (0, 0)) := (hg5.block _ (lt_of_blk HT5.out.2.2.2) (fun z => by have := Option.some.inj z; omega)).trans HT5.out.2.2.2
            have hpc := placed_any (w := w5.drew) (t1.ext hx5.drew fun z hz hge => by have := t1.lt z hz; omega) (bm := w3.heap.size + 1) (mp := w3.heap.size) ⟨_, ht5⟩ (hm5.same rfl) (anew vs x)
              (HT5.out.2.2.1.ask (H.out.1.cl.cov HE.out.2.2.1) fun g hg => List.take_subset_take_left _ (Nat.le_succ k) (part_ahead HE.out.1 hg))
            rw [enc_anew (pvs_cov_part HE.out.2.1) (fun f hf => H.out.1.cl.parts H.out.2.2 hf), ← hfn] at hpc
            obtain ⟨pv, us, p1, p2, p3, p4⟩ := hpl5.num
            have n5 : w5.drew.cell? ⟨w3.heap.size + 1 + 1, 0, none⟩ = some pv := by
              have : w5.cell? ⟨w3.heap.size + 1 + 1, 0, none⟩ = some pv := by rw [← hnb, cell_of_blk p1]; rfl
              exact this
            have HKS := Sealed.mk hks; clear hks
            have HX5 := Sealed.mk hx5; clear hx5
            have HPC := Sealed.mk hpc; clear hpc
            have HPV := Sealed.mk (And.intro p1 (And.intro p2 (And.intro p3 (And.intro p4 hpl5)))); clear p1 p2 p3 p4 hpl5
            have HFN := Sealed.mk hfn; clear hfn t1 f1 f2 f3 f4 f5 f6 g1 d0 d1 d2 ht5 hm5 hg5 c5 ct k7
            unfold pt at HPC
            go_upto_region 21 with fail
            obtain ⟨s0, s1, s2⟩ := HKS.out _ HX5.out.drew
            go_region_law
              (first
                | (go_simp; go_at_call 92; go_must (refine HPC.out.mono ?_; rintro e' w6 ⟨a6, c6, rfl, hown6, hb6⟩; have hx6 : Ext noB w5 w6 := (Ext.refl noB w5).drew.trans (Ext.of_below (M := noB) hb6) (fun _ hb => hb.elim); have n6 : w6.cell? ⟨w3.heap.size + 1 + 1, 0, none⟩ = some pv := (cell_same (hx6.block _ (lt_of_cell (w := w5) n5) fun e => e) 0).trans n5; have n6' : ∀ o, (w6.alloc o).cell? ⟨w3.heap.size + 1 + 1, 0, none⟩ = some pv := fun o => (cell_same (Below.heap_alloc w6 o _ (lt_of_cell n6)) 0).trans n6; have HX6 := Sealed.mk (HX5.out.trans hx6 fun _ hb => hb.elim); have HO6 := Sealed.mk (And.intro hx6 (And.intro (own_ext HPV.out.2.1 hx6 fun _ _ e => e) hown6)); clear hown6 hb6 hx6); try go_simp)
                | (refine step_ap_lit el_terms (.tmp 64) (.tmp 74) rfl rfl rfl HO6.out.2.1 rfl rfl rfl rfl (by omega) (Nat.le_trans HPV.out.2.2.2.2.ext.size HO6.out.1.size) ?_; intro g7 c7 w7 ho7 hg7 hn7
                   have hb7 : w7.heap[nb]? = some (.cells #[pv, .slice none 0 0] 128 (0, 0)) := (hg7.block nb (by have := lt_of_blk HPV.out.1; have := HO6.out.1.size; simp; omega) (fun z => by have := (HPV.out.2.1.lt nb z.symm).1; omega)).trans (blk_alloc_old (HO6.out.1.get HPV.out.1 fun z => z) _)
                   rw [hnb] at hb7
                   have v7 : w7.cell? ⟨w3.heap.size + 1 + 1, 0, none⟩ = some pv := by rw [cell_of_blk hb7]; rfl
                   have v7' : w7.frozen? ⟨w3.heap.size + 1 + 1, 0, none⟩ = false := frozen_of_blk hb7 0
                   have HX7 := Sealed.mk ((HX6.out.alloc (.cells #[.slice a6 fn c6] 96)).grown hg7 fun z hz => .inl (by have := (HPV.out.2.1.lt z hz).1; omega))
                   have HO7 := Sealed.mk (And.intro ho7 (And.intro hg7 hn7))
                   clear ho7 hg7 hn7 hb7))
            all_goals
              go_wp2_with fail
              go_roundg (np - (k + 1))
              case measure => omega
              case rel =>
                refine ⟨k + 1, rfl, by omega, by push_cast; rfl, ?_⟩
                have hl2 : (enc (pvs x) (e : Int)).length = fn := by rw [HFN.out]; simp [enc]
                have ht6 := TL.of_own (l := enc (pvs x) (e : Int)) (by rw [hl2]; exact HO6.out.2.2) (by omega)
                have hpush := PL.push (W5 := w6.alloc (.cells #[.slice a6 fn c6] 96)) HPV.out.2.2.2.2 (by omega) (by omega) (by omega) HPV.out.1 HPV.out.2.1 HPV.out.2.2.1 HPV.out.2.2.2.1 (HO6.out.1.alloc _) HE.out.1
                  (ht6.ext ((Ext.refl noB w6).alloc _) fun _ _ z => z) (fun z hz => (HO6.out.2.2.lt z hz).1) HO7.out.2.1 HO7.out.2.2 HO7.out.1
                rw [← hnb]
                exact hpush
          · have hkk : k = np := by omega
            subst hkk
            have hplc := hpl
            obtain ⟨tl, htm, htt⟩ := hpl.tab
            have hx4 : ∀ z, z < W4.heap.size → z ≠ w3.heap.size → z ≠ nb → wr.heap[z]? = W4.heap[z]? := fun z h1 h2 h3 => hpl.ext.block z h1 (by omega)
            have ht5 : wr.heap[w3.heap.size + 1]? = some (.cells #[.map (some w3.heap.size)] 104 (0, 0)) := (hx4 _ (by omega) (by omega) (by omega)).trans H4.out.2.2.1
            have hbw : Below w3.heap.size w3 wr := H4.out.1.trans ⟨hpl.ext.os, hpl.ext.tape, hpl.ext.output, hpl.ext.size, fun z hz => hpl.ext.block z (by omega) (by omega)⟩
            have hl2 : TL w2 (.slice a n c) (enc vs x) := H.out.2.1.below (HB1.out.trans (H2.out.1.below HGM.out.2.1 HGM.out.1))
            have hrb : ∀ z, (Value.slice a n c).ownBlock = some z → z ≠ b.r3 := fun z hz e3 => by
              obtain ⟨-, -, -, hcell⟩ := H.out.2.1.cells
              obtain ⟨t0, ht0⟩ : ∃ t, (enc vs x)[0]? = some t := ⟨_, List.getElem?_eq_getElem (by have := HN.out; simp [enc]; omega)⟩
              obtain ⟨bb, oo, rfl, h1, -⟩ := hcell 0 _ ht0
              have hzb : bb = z := Option.some.inj hz
              obtain ⟨lo, q1, -, -⟩ := H.out.1.order
              obtain ⟨es, ec, q1, -⟩ := q1
              subst hzb
              subst e3
              simp [World.cell?, q1] at h1
            have e23 : ∀ z, (z = b.r3 ∨ (Value.slice pa ps.length pc).ownBlock = some z) → z = b.r3 ∨ w.heap.size + 7 ≤ z := fun z hz => by
              rcases hz with e | e
              · exact .inl e
              · have h1 := (H2.out.2.2.2.2.2.lt _ e).1
                rw [HGM.out.2.2] at h1
                have h1' : s + 7 ≤ z := h1
                have := HS.out
                exact .inr (by omega)
            have hl3 : TL w3 (.slice a n c) (enc vs x) := hl2.ext H3.out.2.1 fun z hz e => by
              have hlt := H.out.2.1.lt z hz
              rcases e23 z e with e | e
              · exact hrb z hz e
              · omega
            have htk : (plist x).take k = plist x := by rw [HNP.out.2.1, List.take_length]
            have hpc := placed_any (w := wr) (hl3.below hbw) (bm := w3.heap.size + 1) (mp := w3.heap.size) ⟨_, ht5⟩ htm (anew vs x) (htt.ask H.out.2.2 fun g hg => by rw [htk]; exact mem_plist.2 (.here hg))
            rw [enc_anew (pvs_cov x) (fun f hf => H.out.1.cl.parts H.out.2.2 hf)] at hpc
            have hln : (enc vs x).length = n := by have := HN.out; simp [enc]; omega
            rw [hln] at hpc
            have E3 : Ext (fun z => z = b.r3 ∨ w.heap.size ≤ z) w w3 := (Ext.of_below (M := fun z => z = b.r3 ∨ w.heap.size ≤ z) (HB1.out.trans (H2.out.1.below HGM.out.2.1 HGM.out.1))).trans H3.out.2.1 fun z hz => .inl (by rcases e23 z hz with e | e; exact .inl e; exact .inr (by omega))
            have b1 : w3.heap[w.heap.size + 1]? = some (.cells #[.pointer none] 30 (0, 0)) := by
              refine (H3.out.2.1.block _ (lt_of_blk HV1.out.1) fun e => ?_).trans HV1.out.1
              rcases e23 _ e with e | e
              · have := H.out.1.lt b.r3 (.inr (.inr (.inr (.inr rfl)))); omega
              · omega
            have b2 : wr.heap[w.heap.size + 1]? = some (.cells #[.pointer none] 30 (0, 0)) := (hbw.block _ (lt_of_blk b1)).trans b1
            have hlt1 := lt_of_blk b1
            obtain ⟨pv, us, p1, -, -, -⟩ := hpl.num
            have HPC := Sealed.mk hpc; clear hpc
            have HB2 := Sealed.mk (And.intro b2 p1); clear b1 b2 p1
            have HE3 := Sealed.mk (And.intro E3 (And.intro hbw hplc)); clear E3 hbw hplc hpl htm htt hx4 ht5 hl2 hl3 hrb e23 htk hln k7
            unfold pt at HPC
            go_upto_region 24 with (first | (go_at_call 92; go_must (refine HPC.out.mono ?_; rintro e' w6 ⟨a6, c6, rfl, hown6, hb6⟩; have b3 := (hb6.block _ (lt_of_blk HB2.out.2)).trans HB2.out.2; rw [hnb] at b3; have v6 : w6.cell? ⟨w3.heap.size + 1 + 1, 1, none⟩ = some (.slice none 0 0) := (cell_of_blk b3 1).trans rfl; have v6' : w6.frozen? ⟨w3.heap.size + 1 + 1, 1, none⟩ = false := frozen_of_blk b3 1; have HB3 := Sealed.mk (And.intro ((hb6.block _ (lt_of_blk HB2.out.1)).trans HB2.out.1) (And.intro hown6 hb6)); clear b3 hown6 hb6)))
            obtain ⟨W7, hW7⟩ : ∃ W7, W7 = w6.setCell ⟨nb, 1, none⟩ (.slice a6 n c6) := ⟨_, rfl⟩
            have hne7 : w.heap.size + 1 ≠ nb := by omega
            have hlt6 := lt_of_blk HB3.out.1
            have b7 : W7.heap[w.heap.size + 1]? = some (.cells #[.pointer none] 30 (0, 0)) := by
              rw [hW7]
              exact (((Ext.refl (fun z => z = nb) w6).setCell (p := ⟨nb, 1, none⟩) (.inl rfl) (.slice a6 n c6)).block _ hlt6 hne7).trans HB3.out.1
            have v8 : W7.cell? ⟨w.heap.size + 1, 0, none⟩ = some (.pointer none) := by rw [cell_of_blk b7]; rfl
            have v8' : W7.frozen? ⟨w.heap.size + 1, 0, none⟩ = false := frozen_of_blk b7 0
            have v9 : (W7.setCell ⟨w.heap.size + 1, 0, none⟩ (.pointer (some ⟨w3.heap.size + 1 + 1, 0, none⟩))).cell? ⟨w.heap.size + 1, 0, none⟩ = some (.pointer (some ⟨w3.heap.size + 1 + 1, 0, none⟩)) := by rw [cell_of_blk (blk_setCell b7 0 _)]; rfl
            have hW7' := hW7
            rw [hnb] at hW7'
            rw [← hW7']
            have HW7 := Sealed.mk hW7; clear hW7 hW7' b7 v6 v6'
            go_wp2_with fail
            refine bodyPost_ret (v := .tuple #[.agg #[.pointer (some ⟨w3.heap.size + 1 + 1, 0, none⟩)], .int .i64 0]) (by simp [results, Try.results56, go_sem, v9]) rfl ?_
            obtain ⟨E3, hbw, hplc⟩ := HE3.out
            obtain ⟨b2, hown6, hb6⟩ := HB3.out
            have hsz6 : wr.heap.size ≤ w6.heap.size := hb6.size
            have hszw : w3.heap.size ≤ wr.heap.size := hbw.size
            have hx6 : Ext noB wr w6 := Ext.of_below hb6
            have E7 : Ext (fun z => z = nb) w6 W7 := by rw [HW7.out]; exact (Ext.refl (fun z => z = nb) w6).setCell (p := ⟨nb, 1, none⟩) (.inl rfl) _
            have E9 : Ext (fun z => z = w.heap.size + 1) W7 (W7.setCell ⟨w.heap.size + 1, 0, none⟩ (.pointer (some ⟨w3.heap.size + 1 + 1, 0, none⟩))) := (Ext.refl (fun z => z = w.heap.size + 1) W7).setCell (p := ⟨w.heap.size + 1, 0, none⟩) (.inl rfl) _
            have E36 : Ext (fun z => z = w.heap.size + 1 ∨ w3.heap.size ≤ z) w3 (W7.setCell ⟨w.heap.size + 1, 0, none⟩ (.pointer (some ⟨w3.heap.size + 1 + 1, 0, none⟩))) :=
              (((Ext.of_below (M := fun z => z = w.heap.size + 1 ∨ w3.heap.size ≤ z) hbw).trans hx6 fun _ hb => hb.elim).trans E7 fun z hz => .inr (by omega)).trans E9 fun z hz => .inl (.inl hz)
            have E09 := E3.trans E36 fun z hz => by rcases hz with e | e; exact .inr (by omega); exact .inr (by omega)
            have hap := H.out.1.apart
            refine ⟨H3.out.1.extF E36 fun z hz hzl => ?_, E09.imp fun z hz => hz, _, .inl ⟨HA.out, rfl, HA.out, .inr ⟨fun e => h0 (by rw [HN.out, form_eq_nil.2 e]; rfl), w3.heap.size + 1 + 1, rfl, ?_⟩⟩⟩
            · rcases hz with e | e
              · refine (H.out.1.fresh (q := z) (by omega)).same E3 (H.out.1.lt b.f (.inr (.inl rfl))) fun e => ?_
                rcases e with e | e
                · exact hap.2.2.2.2.2.2.1 e
                · have := H.out.1.lt b.f (.inr (.inl rfl)); omega
              · omega
            · rw [← hnb]
              have hl2 : (enc (pvs x) x).length = n := by have := HN.out; simp [enc]; omega
              have ht6 := TL.of_own (l := enc (pvs x) x) (by rw [hl2]; exact hown6) (by rw [hl2]; omega)
              rw [HNP.out.2.1] at hplc
              refine hplc.done hx6 ht6 (by omega) (fun z hz => by have := (hown6.lt z hz).1; have := hplc.ext.size; omega) ?_
              have e9 := E9
              rw [HW7.out, hnb] at e9
              rw [HW7.out, hnb]
              exact e9.imp fun z hz => .inl ⟨by omega, by omega⟩
      · have hna : ok = true → ps.length + 1 ≤ 2000 → 100 < hh := fun h1 h2 => by
          by_cases h3 : hh ≤ 100
          · exact absurd (HT.out.2 ⟨h1, h2, h3⟩) hA
          · omega
        have HA := Sealed.mk hA; clear hA
        have hend : ∀ w3 : World, Ext (fun q => q = w.heap.size + 1) w2 w3 → WInv w3 b vs U ∧ Ext (fun k => k = b.r3) w w3 := fun w3 e3 => by
          have a1 : Below w.heap.size w w2 := HB1.out.trans (H2.out.1.below HGM.out.2.1 HGM.out.1)
          have a2 : Below w.heap.size w w3 := a1.trans ⟨e3.os, e3.tape, e3.output, e3.size, fun k hk => e3.block k (by have := a1.size; omega) (by omega)⟩
          exact ⟨H.out.1.below a2, Ext.of_below a2⟩
        have HE := Sealed.mk hend; clear hend
        have hx3 : Ext (fun q => q = w.heap.size + 1) w2 (w2.setCell ⟨w.heap.size + 1, 0, none⟩ (.pointer none)) := (Ext.refl (fun q => q = w.heap.size + 1) w2).setCell (p := ⟨w.heap.size + 1, 0, none⟩) (.inl rfl) _
        have hc3 : (w2.setCell ⟨w.heap.size + 1, 0, none⟩ (.pointer none)).cell? ⟨w.heap.size + 1, 0, none⟩ = some (.pointer none) := by rw [cell_of_blk (blk_setCell HV1.out.1 0 _)]; rfl
        have HX3 := Sealed.mk hx3; clear hx3
        have HC3 := Sealed.mk hc3; clear hc3
        cases ok
        · go_wp2_with fail
          exact bodyPost_ret (v := .tuple #[.agg #[.pointer none], .int .i64 5]) (by simp [results, Try.results56, go_sem, HC3.out]) rfl ⟨(HE.out _ HX3.out).1, (HE.out _ HX3.out).2, .bool true, .inr ⟨HA.out, rfl⟩⟩
        · by_cases h4 : ps.length + 1 ≤ 2000
          · have h5 := hna rfl h4
            clear hna
            go_wp2_with fail
            exact bodyPost_ret (v := .tuple #[.agg #[.pointer none], .int .i64 5]) (by simp [results, Try.results56, go_sem, HC3.out]) rfl ⟨(HE.out _ HX3.out).1, (HE.out _ HX3.out).2, .bool true, .inr ⟨HA.out, rfl⟩⟩
          · clear hna
            go_wp2_with fail
            exact bodyPost_ret (v := .tuple #[.agg #[.pointer none], .int .i64 5]) (by simp [results, Try.results56, go_sem, HC3.out]) rfl ⟨(HE.out _ HX3.out).1, (HE.out _ HX3.out).2, .bool true, .inr ⟨HA.out, rfl⟩⟩
end Go.Proofs.Ytgchfbfgjanaiaa
