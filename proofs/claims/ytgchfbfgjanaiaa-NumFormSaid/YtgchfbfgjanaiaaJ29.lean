/- (num.number).part -/
import Derived.Test.YtgchfbfgjanaiaaJ28
import Derived.Test.YtgchfbfgjanaiaaJ27
import Derived.Test.YtgchfbfgjanaiaaJ20
import Derived.Deep.DeepCutAuto
import Derived.Deep.RegionLaw
set_option linter.unusedSimpArgs false
set_option linter.unusedVariables false
namespace Go.Proofs.Ytgchfbfgjanaiaa
open Go.RowKit Sr
theorem el_bool : ElemT Try.prog 141 4 1 (.bool false) 1 := ⟨Try.underlying141, by kernel_rfl, rfl, by decide, by decide⟩
theorem allowed_part {x : Int} (hx : Allowed x) {e : Nat} (he : Part e x) : Allowed (e : Int) := by
  obtain ⟨h1, h2, h3, h4⟩ := hx
  refine ⟨h2 e he, fun f hf => h2 f (he.trans hf), ?_, ?_⟩
  · have hnd : (plist (e : Int)).Nodup := (plist_up _).imp fun h => by omega
    have : (plist (e : Int)).length ≤ (plist x).length := by
      have key : ∀ {a b : List Nat}, a.Nodup → (∀ x ∈ a, x ∈ b) → a.length ≤ b.length := by
        intro a
        induction a with
        | nil => intro b _ _; simp
        | cons y a ih =>
          intro b hd hs
          obtain ⟨hy, hd'⟩ := List.nodup_cons.1 hd
          have hyb : y ∈ b := hs y (by simp)
          have hlen := List.length_erase_of_mem hyb
          have hpos := List.length_pos_of_mem hyb
          have := ih (b := b.erase y) hd' fun u hu => (List.mem_erase_of_ne (fun h : u = y => hy (h ▸ hu))).2 (hs u (by simp [hu]))
          simp only [List.length_cons]
          omega
      exact key hnd fun f hf => mem_plist.2 (he.trans (mem_plist.1 hf))
    unfold weight at *
    omega
  · have := height_part he
    omega
theorem bools_row (n k : Nat) (hk : k < n) : ((madeCells #[Value.bool false] n).setIfInBounds k (.bool true)).toList = (((List.replicate n false).set k true).map fun b => Value.bool b) := by
  rw [Array.toList_setIfInBounds, toList_madeCells_one, List.map_set]
  simp
theorem below_chain2 {w w1 w2 : World} (h : Below w.heap.size w w1) (k : Below w1.heap.size w1 w2) : Below w.heap.size w w2 :=
  h.trans ⟨k.os, k.tape, k.output, k.size, fun q hq => k.block q (by have := h.size; omega)⟩
set_option maxRecDepth 100000 in
set_option maxHeartbeats 4000000 in
theorem part_any {w : World} {kb : Nat} {x : Int} (h : NumBlk w kb x) (hA : Allowed x) {i z : Nat} (hz : (plist x)[i]? = some z) : Calls Try.prog 82 #[.pointer (some ⟨kb, 0, none⟩), .int .i64 (i : Int)] w fun e w' => ∃ p, e = .returned (.agg #[.pointer p]) ∧ NumIs w' (.agg #[.pointer p]) (z : Int) ∧ Below w.heap.size w w' := by
  obtain ⟨pv, sv, hk, hpa, hsv⟩ := h
  obtain ⟨hp0, pa, pc, rfl, hpc, hpr⟩ := hpa
  obtain ⟨np, hnp⟩ : ∃ np, np = (plist x).length := ⟨_, rfl⟩
  rw [← hnp] at hpc hk hp0
  have hin : i < np := by rw [hnp]; exact (List.getElem?_eq_some_iff.1 hz).1
  have hnp2 : np ≤ 2000 := by have := hA.2.2.1; unfold weight at this; omega
  obtain ⟨pb, po, rfl, hrd⟩ := hpr (fun hh => by rw [hh] at hz; simp at hz)
  have hzA := allowed_part hA (mem_plist.1 (List.mem_of_getElem? hz))
  obtain ⟨W1, hW1⟩ : ∃ W1, W1 = w.alloc (.cells #[.pointer none] 30) := ⟨_, rfl⟩
  have b1 : Below w.heap.size w W1 := by rw [hW1]; exact (Below.refl _ _).alloc (Nat.le_refl _) _
  have s1 : W1.heap.size = w.heap.size + 1 := by rw [hW1]; simp
  have x1 : W1.heap[w.heap.size]? = some (.cells #[.pointer none] 30 (0, 0)) := by rw [hW1]; exact blk_alloc _ _
  have hcells : ∀ W, Below w.heap.size w W → W.cell? ⟨kb, 0, none⟩ = some (.slice (some ⟨pb, po, none⟩) np pc) ∧ ∀ (j e : Nat), (plist x)[j]? = some e → ∃ ua un uc, un = wl (e : Int) ∧ W.cell? ⟨pb, po + j, none⟩ = some (.slice ua un uc) ∧ TL W (.slice ua un uc) (enc (pvs x) (e : Int)) ∧ ∀ q, (Value.slice ua un uc).ownBlock = some q → q < w.heap.size := fun W hb => by
    refine ⟨(cell_of_blk ((hb.block _ (lt_of_blk hk)).trans hk) 0).trans rfl, fun j e he => ?_⟩
    obtain ⟨u, hu, htl⟩ := hrd.get j e he
    obtain ⟨ua, un, uc, rfl⟩ := htl.slice
    exact ⟨ua, un, uc, by rw [htl.cells.1]; simp [enc, wl], (cell_same (hb.block pb (lt_of_cell hu)) _).trans hu, htl.below hb, htl.lt⟩
  have HC := Sealed.mk hcells; clear hcells hrd
  have H := Sealed.mk (And.intro hk (And.intro hA (And.intro hz (And.intro hzA hnp)))); clear hk hp0 hsv hpr hzA hA hnp
  have HX := Sealed.mk (And.intro hW1 (And.intro b1 (And.intro s1 x1))); clear hW1 b1 s1 x1
  obtain ⟨d0, d1⟩ := HC.out _ HX.out.2.1
  rw [HX.out.1] at d0 d1
  obtain ⟨ua, un, uc, hun, d2, -⟩ := d1 i z hz
  clear d1 hz
  by_cases hz0 : un = 0
  · subst hz0
    have HZ := Sealed.mk hun; clear hun
    have x1' : (w.alloc (.cells #[.pointer none] 30)).cell? ⟨w.heap.size, 0, none⟩ = some (.pointer none) := (cell_of_blk (blk_alloc _ _) 0).trans rfl
    go_enter Try.func82, Try.ntmps82
    go_wp2_with fail
    rw [← HX.out.1]
    have y0 : W1.cell? ⟨w.heap.size, 0, none⟩ = some (.pointer none) := (cell_of_blk HX.out.2.2.2 0).trans rfl
    have hzz : (z : Int) = 0 := by
      have := HZ.out
      unfold wl at this
      exact form_eq_nil.1 (List.eq_nil_of_length_eq_zero this.symm)
    refine bodyPost_ret (v := .agg #[.pointer none]) (by simp [results, Try.results82, go_sem, y0]) rfl ⟨none, rfl, by rw [hzz]; exact NumIs.zero _, HX.out.2.1⟩
  · have hz1 : ((un : Int) == 0) = false := by simp; omega
    have hmk : ∀ W, (Instr.makeSlice 141 (.int .i64 ((i : Int) + 1)) (.int .i64 ((i : Int) + 1))).run Try.prog W = .ok (.slice (some ⟨W.heap.size, 0, none⟩) (i + 1) (i + 1)) (W.alloc (.cells (madeCells #[.bool false] ((i + 1) * 1)) 4)) := fun W => by
      have := run_mk el_bool (i + 1) (by omega) W
      rw [show ((i + 1 : Nat) : Int) = (i : Int) + 1 by omega] at this
      exact this
    simp only [Nat.mul_one] at hmk
    have hw1 : IntKind.i64.wrap ((i : Int) + 1) = ((i + 1 : Nat) : Int) := by rw [IntKind.wrap_i64]; omega
    have HZ := Sealed.mk (And.intro hz0 hun); clear hz0 hun
    go_enter Try.func82, Try.ntmps82
    go_upto_region 4 with fail
    obtain ⟨bu, hbu⟩ : ∃ bu, bu = w.heap.size + 1 := ⟨_, rfl⟩
    rw [← HX.out.1, ← hbu]
    obtain ⟨W2, hW2⟩ : ∃ W2, W2 = W1.alloc (.cells (madeCells #[.bool false] (i + 1)) 4) := ⟨_, rfl⟩
    have b12 : Below W1.heap.size W1 W2 := by rw [hW2]; exact (Below.refl _ _).alloc (Nat.le_refl _) _
    have s12 : W2.heap.size = bu + 1 := by rw [hW2, hbu, World.size_alloc, HX.out.2.2.1]
    have hm0 : (madeCells #[Value.bool false] (i + 1)).toList = (List.replicate (i + 1) false).map fun b => Value.bool b := by rw [toList_madeCells_one]; simp
    have u2 : W2.ownsRow bu 4 1 (.slice (some ⟨bu, 0, none⟩) (i + 1) (i + 1)) (i + 1) ((List.replicate (i + 1) false).map fun b => Value.bool b) := by
      have hg : W2.heap[bu]? = some (.cells (madeCells #[.bool false] (i + 1)) 4 (0, 0)) := by
        have := blk_alloc W1 (.cells (madeCells #[.bool false] (i + 1)) 4)
        rw [HX.out.2.2.1, ← hbu, ← hW2] at this
        exact this
      refine ⟨by simp, .inr ⟨bu, i + 1, _, rfl, Nat.le_refl _, hg, Nat.le_refl _, by unfold maxLen; omega, by simp [size_madeCells], ?_⟩⟩
      rw [hm0]
      exact List.take_of_length_le (by simp)
    have c2 := own_cell u2 (b := bu) rfl (j := i) (u := .bool false) (by simp)
    have f2 := own_free u2 (b := bu) rfl i
    rw [← hW2]
    have H2 := Sealed.mk (And.intro hW2 (And.intro b12 (And.intro s12 (And.intro u2 hbu)))); clear hW2 b12 s12 u2 hm0 d0 d2 hbu
    go_upto_region 6 with fail
    have hbel : ∀ W, Ext (fun q => q = bu) W2 W → Below w.heap.size w W := fun W e => below_ext (below_chain2 HX.out.2.1 H2.out.2.1) e fun q hq => by have := H2.out.2.2.2.2; omega
    have HBEL := Sealed.mk hbel; clear hbel
    obtain ⟨N0, hN0⟩ : ∃ N0, N0 = i + 1 := ⟨_, rfl⟩
    go_loopg [6] N0 (fun jj iv wr => ∃ (j : Nat) (us : List Bool), jj = j ∧ j ≤ i + 1 ∧ iv = .int .i64 ((j : Int) - 1) ∧ Ext (fun q => q = bu) W2 wr ∧ wr.ownsRow bu 4 1 (.slice (some ⟨bu, 0, none⟩) (i + 1) (i + 1)) (i + 1) (us.map fun b => Value.bool b) ∧ UI x i z j us)
    case atStart =>
      refine ⟨i + 1, (List.replicate (i + 1) false).set i true, hN0, Nat.le_refl _, by congr 1; omega, (Ext.refl (fun q => q = bu) W2).setCell (p := ⟨bu, i, none⟩) (.inl rfl) _, ?_, UI.start x H.out.2.2.1⟩
      have := own_set H2.out.2.2.2.1 (b := bu) rfl (j := i) (by omega) (.bool true)
      rw [← List.map_set] at this
      exact this
    case round =>
      obtain ⟨j, us, hjj, hj, rfl, hE, hrow, hui⟩ := hrel
      cases j with
      | zero =>
        have HF := Sealed.mk (And.intro hE (And.intro hrow hui)); clear hE hrow hui
        have hmk2 : ∀ W, (Instr.makeSlice 57 (.int .i64 (i : Int)) (.int .i64 (i : Int))).run Try.prog W = .ok (.slice (some ⟨W.heap.size, 0, none⟩) i i) (W.alloc (.cells (madeCells #[.int .i64 0] (i * 1)) 3)) := fun W => run_mk el_int i (by omega) W
        simp only [Nat.mul_one] at hmk2
        rw [show (((0 : Nat) : Int)) - 1 = -1 by omega]
        go_upto_region 17 with fail
        obtain ⟨nb, hnb⟩ : ∃ nb, nb = wr.heap.size := ⟨_, rfl⟩
        rw [← hnb]
        obtain ⟨W5, hW5⟩ : ∃ W5, W5 = ((wr.alloc (.cells #[.slice none 0 0, .slice none 0 0] 128)).alloc (.cells (madeCells #[.int .i64 0] i) 3)).alloc (.cells #[.slice (some ⟨nb + 1, 0, none⟩) i i] 57) := ⟨_, rfl⟩
        rw [← hW5]
        have s5 : W5.heap.size = nb + 1 + 1 + 1 := by rw [hW5, hnb]; simp
        have n5 : W5.heap[nb]? = some (.cells #[.slice none 0 0, .slice none 0 0] 128 (0, 0)) := by
          have := blk_alloc_old (blk_alloc_old (blk_alloc wr (.cells #[.slice none 0 0, .slice none 0 0] 128)) (.cells (madeCells #[.int .i64 0] i) 3)) (.cells #[.slice (some ⟨nb + 1, 0, none⟩) i i] 57)
          rw [← hW5, ← hnb] at this
          exact this
        have m5 : W5.heap[nb + 1]? = some (.cells (madeCells #[.int .i64 0] i) 3 (0, 0)) := by
          have := blk_alloc_old (blk_alloc (wr.alloc (.cells #[.slice none 0 0, .slice none 0 0] 128)) (.cells (madeCells #[.int .i64 0] i) 3)) (.cells #[.slice (some ⟨nb + 1, 0, none⟩) i i] 57)
          rw [← hW5, World.size_alloc, ← hnb] at this
          exact this
        have v5 : W5.heap[nb + 1 + 1]? = some (.cells #[.slice (some ⟨nb + 1, 0, none⟩) i i] 57 (0, 0)) := by
          have := blk_alloc ((wr.alloc (.cells #[.slice none 0 0, .slice none 0 0] 128)).alloc (.cells (madeCells #[.int .i64 0] i) 3)) (.cells #[.slice (some ⟨nb + 1, 0, none⟩) i i] 57)
          rw [← hW5, World.size_alloc, World.size_alloc, ← hnb] at this
          exact this
        have e5 : Ext noB wr W5 := by rw [hW5]; exact (((Ext.refl noB wr).alloc _).alloc _).alloc _
        have hpq0 : PQ W5 W5 x i (z : Int) (nb + 1) nb 0 0 := by
          refine ⟨Ext.refl _ _, ⟨_, m5, by simp [size_madeCells], fun j e h => by omega⟩, ⟨.slice none 0 0, [], n5, World.ownsRow_nil _ _ _ _, rfl, fun j e u h => by simp at h⟩⟩
        have hbunb : bu < nb := by rw [hnb]; exact (HF.out.2.1.lt bu rfl).2
        have hE5 : Ext (fun q => q = bu) W2 W5 := HF.out.1.trans e5 (fun _ h => h.elim)
        have hrow5 := own_ext HF.out.2.1 e5 (fun _ _ h => h)
        have hall : ∀ (j e : Nat), j < i → (plist x)[j]? = some e → (us[j]? = some true ↔ Part e (z : Int)) := fun j e hj he => HF.out.2.2.all H.out.2.2.1 hj he
        have hlen := HF.out.2.2.len
        have HP := Sealed.mk (And.intro s5 (And.intro v5 (And.intro hpq0 (And.intro hE5 (And.intro hrow5 (And.intro hall hlen)))))); clear hnb hW5 s5 n5 m5 v5 e5 hpq0 hE5 hrow5 hall hlen HF
        have hnb1 : nb + 1 ≠ nb := by omega
        go_loopg [68] i (fun jj iv W => ∃ j : Nat, jj = i - j ∧ j ≤ i ∧ iv = .int .i64 (j : Int) ∧ PQ W5 W x i (z : Int) (nb + 1) nb j (pz x (z : Int) j).length)
        case atStart => exact ⟨0, rfl, Nat.zero_le _, rfl, by rw [pz_zero]; exact HP.out.2.2.1⟩
        case round =>
          obtain ⟨j, rfl, hj, rfl, hpq⟩ := hrel
          obtain ⟨s5, v5, -, hE5, hrow5, hall, hlen⟩ := HP.out
          have bwr : Below w.heap.size w wr := by
            have e := hpq.ext
            exact below_ext (HBEL.out _ hE5) e fun q hq => by have := H2.out.2.2.2.2; omega
          have hvar : wr.heap[nb + 1 + 1]? = some (.cells #[.slice (some ⟨nb + 1, 0, none⟩) i i] 57 (0, 0)) := hpq.ext.get v5 (by omega)
          have hrow := own_ext hrow5 hpq.ext (fun q hq e => by have : bu = q := Option.some.inj hq; omega)
          by_cases hji : j < i
          · obtain ⟨ej, hej⟩ : ∃ e, (plist x)[j]? = some e := ⟨_, List.getElem?_eq_getElem (by have := H.out.2.2.2.2; omega)⟩
            obtain ⟨c, hc⟩ : ∃ c, us[j]? = some c := ⟨_, List.getElem?_eq_getElem (by omega)⟩
            have g0 : wr.cell? ⟨bu, j, none⟩ = some (.bool c) := own_cell hrow (b := bu) rfl (by rw [List.getElem?_map, hc]; rfl)
            have hji1 : j < i + 1 := by omega
            have hiff := hall j ej hji hej
            rw [hc] at hiff
            obtain ⟨kn, hkn⟩ : ∃ kn, kn = (pz x (z : Int) j).length := ⟨_, rfl⟩
            have hknj : kn ≤ j := by rw [hkn]; exact pz_len_le _ _ _
            rw [← hkn] at hpq
            clear hall hlen hE5 hrow5 hc hrow
            cases c with
            | false =>
              have hnp : ¬ Part ej (z : Int) := fun h => by have := hiff.2 h; simp at this
              have HQ := Sealed.mk (And.intro hpq (And.intro hej (And.intro hnp hkn))); clear hpq hej hnp hkn hiff bwr hvar s5 v5
              go_wp2_with fail
              go_roundg (i - (j + 1))
              case measure => omega
              case rel => exact ⟨j + 1, rfl, by omega, by push_cast; rfl, by rw [pz_no HQ.out.2.1 HQ.out.2.2.1, ← HQ.out.2.2.2]; exact HQ.out.1.skip HQ.out.2.1 HQ.out.2.2.1⟩
            | true =>
              have hyp : Part ej (z : Int) := hiff.1 rfl
              obtain ⟨hp1, hp2⟩ := pz_at H.out.2.2.1 hji hej hyp
              rw [← hkn] at hp1 hp2
              obtain ⟨pv, vs1, p1, p2, p3, p4⟩ := hpq.num
              obtain ⟨pva, pvc, rfl⟩ := own_slice p2
              obtain ⟨cs, q1, q2, q3⟩ := hpq.tab
              have hcj : ∃ v, cs[j]? = some v := ⟨_, Array.getElem?_eq_getElem (by omega)⟩
              obtain ⟨vj, hvj⟩ := hcj
              have d0 : wr.drew.cell? ⟨nb + 1 + 1, 0, none⟩ = some (.slice (some ⟨nb + 1, 0, none⟩) i i) := (cell_of_blk hvar 0).trans rfl
              have d1 : wr.drew.cell? ⟨nb, 0, none⟩ = some (.slice pva kn pvc) := (cell_of_blk p1 0).trans rfl
              have d2 : wr.drew.cell? ⟨nb + 1, j, none⟩ = some vj := (cell_of_blk q1 j).trans hvj
              have d3 : wr.drew.frozen? ⟨nb + 1, j, none⟩ = false := frozen_of_blk (show wr.drew.heap[nb + 1]? = _ from q1) j
              have hpqd : PQ W5 wr.drew x i (z : Int) (nb + 1) nb j kn := hpq.keep ((Ext.refl noB wr).drew)
              have HQ := Sealed.mk (And.intro hpqd (And.intro hej (And.intro hyp (And.intro hkn (And.intro hp1 (And.intro hp2 (And.intro hvar (And.intro bwr s5)))))))); clear hpq hpqd hej hyp hkn hp1 hp2 hiff p1 p2 p3 p4 q1 q2 q3 hvj bwr hvar s5 v5
              go_upto_region 20 with fail
              refine wp_region_still_tail 8 (by kernel_rfl) (by kernel_rfl) ?_
              simp only [List.take_succ_cons, List.take_zero, List.drop_succ_cons, List.drop_zero]
              (repeat still_step)
              refine wpStill_nil ?_
              change wpList _ _ _ _ _ wr.drew
              go_upto_region 21 with fail
              obtain ⟨W6, hW6⟩ : ∃ W6, W6 = (wr.setCell ⟨nb + 1, j, none⟩ (.int .i64 (kn : Int))).drew := ⟨_, rfl⟩
              rw [← hW6]
              obtain ⟨hpqd, hej, hyp, hkn, hp1, hp2, hvar, bwr, s5⟩ := HQ.out
              have hx6 : Ext (fun q => q = nb + 1) wr W6 := by rw [hW6]; exact ((Ext.refl (fun q => q = nb + 1) wr).setCell (p := ⟨nb + 1, j, none⟩) (.inl rfl) _).drew
              have hpq6 : PQ W5 W6 x i (z : Int) (nb + 1) nb (j + 1) kn := by rw [hW6]; exact hpqd.table (by omega) hnb1 hej hji hp2.symm
              have hpq6d := hpq6.keep ((Ext.refl noB W6).drew)
              have bw6 : Below w.heap.size w W6.drew := by
                have e := hpq6d.ext
                exact below_ext (HBEL.out _ HP.out.2.2.2.1) e fun q hq => by have := H2.out.2.2.2.2; omega
              have hvar6 : W6.drew.heap[nb + 1 + 1]? = some (.cells #[.slice (some ⟨nb + 1, 0, none⟩) i i] 57 (0, 0)) := hx6.get hvar (by omega)
              obtain ⟨k0, k1⟩ := HC.out _ bw6
              obtain ⟨va, vn, vc, hvn, k2, hvt, hvb⟩ := k1 j ej hej
              obtain ⟨pv, us', p1, p2, p3, p4⟩ := hpq6.num
              obtain ⟨a6', c6', rfl⟩ := own_slice p2
              have k3 : W6.drew.cell? ⟨nb, 0, none⟩ = some (.slice a6' kn c6') := (cell_of_blk (show W6.drew.heap[nb]? = _ from p1) 0).trans rfl
              have hpf := partF_any hvt hvar6 (atPrt x (z : Int)) (hpq6d.ask H.out.2.2.1 (fun g hg => ⟨List.take_subset_take_left _ (Nat.le_succ j) (part_ahead hej hg), hyp.up hg⟩) (by omega) (by omega))
              have hlv : (enc (pvs x) (ej : Int)).length = vn := by rw [hvn]; simp [enc, wl]
              rw [hlv, enc_prt fun g hg => mem_plist.2 ((mem_plist.1 (List.mem_of_getElem? hej)).up hg)] at hpf
              have hvn3 : vn ≤ 300 := by rw [hvn]; exact H.out.2.1.2.1 ej (mem_plist.1 (List.mem_of_getElem? hej))
              have hlz : (enc (pvs (z : Int)) (ej : Int)).length = vn := by rw [hvn]; simp [enc, wl]
              have HPF := Sealed.mk hpf; clear hpf
              have HQ6 := Sealed.mk (And.intro p1 (And.intro p2 (And.intro p3 (And.intro p4 (And.intro hpq6 (And.intro hp1 (And.intro hlz (And.intro hej (And.intro hyp (And.intro hkn s5)))))))))); clear p1 p2 p3 p4 hpq6 hpq6d hp1 hp2 hlz hej hyp hkn s5 k1 hvt hvb hlv hvn bwr bw6 hvar hvar6 hpqd HQ d0 d1 d2 d3 g0 hx6
              have hjnp : j < np := by omega
              have hjnp2 : (j : Int) < (np : Int) := by omega
              have hjz : (0 : Int) ≤ (j : Int) := by omega
              have HW6 := Sealed.mk hW6; clear hW6
              go_region_law
                (first
                  | (go_simp; go_at_call 104; go_must (refine HPF.out.mono ?_; rintro e' w6 ⟨a6, c6, rfl, hown6, hb6⟩; have hx6 : Ext noB W6 w6 := (Ext.refl noB W6).drew.trans (Ext.of_below (M := noB) hb6) (fun _ hb => hb.elim); have n6 : w6.cell? ⟨nb, 0, none⟩ = some (.slice a6' kn c6') := (cell_same (hx6.block _ (lt_of_cell (w := W6) k3) fun e => e) 0).trans k3; have n6' : ∀ o, (w6.alloc o).cell? ⟨nb, 0, none⟩ = some (.slice a6' kn c6') := fun o => (cell_same (Below.heap_alloc w6 o _ (lt_of_cell n6)) 0).trans n6; have HO6 := Sealed.mk (And.intro hx6 (And.intro (own_ext HQ6.out.2.1 hx6 fun _ _ e => e) hown6)); clear hown6 hb6 hx6); try go_simp)
                  | (refine step_ap_lit el_terms (.tmp 87) (.tmp 97) rfl rfl rfl HO6.out.2.1 rfl rfl rfl rfl (by omega) (Nat.le_trans HQ6.out.2.2.2.2.1.ext.size HO6.out.1.size) ?_; go_must (intro g7 c7 w7 ho7 hg7 hn7; have hb7 : w7.heap[nb]? = some (.cells #[.slice a6' kn c6', .slice none 0 0] 128 (0, 0)) := (hg7.block nb (by have := lt_of_blk HQ6.out.1; have := HO6.out.1.size; simp; omega) (fun z => by have := (HQ6.out.2.1.lt nb z.symm).1; have := HQ6.out.2.2.2.2.2.2.2.2.2.2; omega)).trans (blk_alloc_old (HO6.out.1.get HQ6.out.1 fun z => z) _); have v7 : w7.cell? ⟨nb, 0, none⟩ = some (.slice a6' kn c6') := (cell_of_blk hb7 0).trans rfl; have v7' : w7.frozen? ⟨nb, 0, none⟩ = false := frozen_of_blk hb7 0; have HO7 := Sealed.mk (And.intro ho7 (And.intro hg7 hn7)); clear ho7 hg7 hn7 hb7)))
              all_goals
                go_wp2_with fail
                go_roundg (i - (j + 1))
                case measure => omega
                case rel =>
                  refine ⟨j + 1, rfl, by omega, by push_cast; rfl, ?_⟩
                  obtain ⟨p1, p2, p3, p4, hpq6, hp1, hlz, hej, hyp, hkn, s5⟩ := HQ6.out
                  have ht6 := TL.of_own (l := enc (pvs (z : Int)) (ej : Int)) (by rw [hlz]; exact HO6.out.2.2) (by omega)
                  have hpush := PQ.push (W5 := w6.alloc (.cells #[.slice a6 vn c6] 96)) hpq6 (by omega) (by omega) hnb1 p1 p2 p3 p4 (HO6.out.1.alloc _) hp1
                    (ht6.ext ((Ext.refl noB w6).alloc _) fun _ _ z => z) (fun q hq => (HO6.out.2.2.lt q hq).1) HO7.out.2.1 HO7.out.2.2 HO7.out.1
                  rw [pz_yes hej hyp, List.length_append, ← hkn]
                  exact hpush
          · have hjeq : j = i := by omega
            subst hjeq
            rw [pz_all H.out.2.2.1] at hpq
            obtain ⟨k0, k1⟩ := HC.out _ bwr
            obtain ⟨va, vn, vc, hvn, k2, hvt, hvb⟩ := k1 j z H.out.2.2.1
            have hpf := partF_any hvt hvar (atPrt x (z : Int)) (hpq.ask H.out.2.2.1 (fun g hg => ⟨part_ahead H.out.2.2.1 hg, .here hg⟩) (by omega) (Nat.le_refl _))
            have hlv : (enc (pvs x) (z : Int)).length = vn := by rw [hvn]; simp [enc, wl]
            have hlz : (enc (pvs (z : Int)) (z : Int)).length = vn := by rw [hvn]; simp [enc, wl]
            have hvn3 : vn ≤ 300 := by rw [hvn]; exact H.out.2.2.2.1.1
            rw [hlv, enc_prt fun g hg => mem_plist.2 ((mem_plist.1 (List.mem_of_getElem? H.out.2.2.1)).up hg)] at hpf
            obtain ⟨pv, us', p1, p2, p3, p4⟩ := hpq.num
            have r0 : wr.heap[w.heap.size]? = some (.cells #[.pointer none] 30 (0, 0)) := by
              have z1 := (H2.out.2.1.block _ (lt_of_blk HX.out.2.2.2)).trans HX.out.2.2.2
              have z2 := hE5.get z1 (fun e => by have : w.heap.size = bu := e; have := H2.out.2.2.2.2; omega)
              exact hpq.ext.get z2 (by have := H2.out.2.2.2.2; omega)
            have HPF := Sealed.mk hpf; clear hpf
            have HQ := Sealed.mk (And.intro hpq (And.intro p1 (And.intro r0 (And.intro hlz (And.intro bwr s5))))); clear hpq p1 p2 p3 p4 r0 hlz hvt hvb hlv hvn k1 bwr hvar hrow hE5 hrow5 hall hlen s5 v5
            go_wp2_with (go_at_call 104; go_must (refine HPF.out.mono ?_; rintro e' w6 ⟨a6, c6, rfl, hown6, hb6⟩; have q1 := (hb6.block _ (lt_of_blk HQ.out.2.1)).trans HQ.out.2.1; have q2 := (hb6.block _ (lt_of_blk HQ.out.2.2.1)).trans HQ.out.2.2.1; have y1 : w6.cell? ⟨nb, 1, none⟩ = some (.slice none 0 0) := (cell_of_blk q1 1).trans rfl; have y2 : w6.frozen? ⟨nb, 1, none⟩ = false := frozen_of_blk q1 1; have e7 : ∀ u, Ext (fun q => q = nb) w6 (w6.setCell ⟨nb, 1, none⟩ u) := fun u => (Ext.refl (fun q => q = nb) w6).setCell (p := ⟨nb, 1, none⟩) (.inl rfl) u; have q3 := fun u => (e7 u).get q2 (by have := H2.out.2.2.2.2; omega); have y3 : ∀ u, (w6.setCell ⟨nb, 1, none⟩ u).cell? ⟨w.heap.size, 0, none⟩ = some (.pointer none) := fun u => (cell_of_blk (q3 u) 0).trans rfl; have y4 : ∀ u, (w6.setCell ⟨nb, 1, none⟩ u).frozen? ⟨w.heap.size, 0, none⟩ = false := fun u => frozen_of_blk (q3 u) 0; have H6 := Sealed.mk (And.intro hown6 (And.intro hb6 (And.intro q1 q3))); clear hown6 hb6 q1 q2 q3))
            obtain ⟨hpq, p1, r0, hlz, bwr, s5⟩ := HQ.out
            obtain ⟨hown6, hb6, q1, q3⟩ := H6.out
            have hbu2 := H2.out.2.2.2.2
            have y5 : ∀ u, ((w6.setCell ⟨nb, 1, none⟩ u).setCell ⟨w.heap.size, 0, none⟩ (.pointer (some ⟨nb, 0, none⟩))).cell? ⟨w.heap.size, 0, none⟩ = some (.pointer (some ⟨nb, 0, none⟩)) := fun u => by rw [cell_of_blk (blk_setCell (q3 u) 0 _)]; rfl
            have ht6 := TL.of_own (l := enc (pvs (z : Int)) (z : Int)) (by rw [hlz]; exact hown6) (by omega)
            have hz0 : (z : Int) ≠ 0 := fun e => HZ.out.1 (by rw [HZ.out.2, e, wl_zero])
            have hdone := hpq.done (Ext.of_below hb6) ht6 (by omega) (fun q hq => by have h1 := own_ge hown6 q hq; have h2 := hpq.ext.size; omega)
              (((Ext.refl (fun q => q < W5.heap.size ∧ q ≠ nb) (w6.setCell ⟨nb, 1, none⟩ (.slice a6 vn c6))).setCell (p := ⟨w.heap.size, 0, none⟩) (.inl ⟨by show w.heap.size < W5.heap.size; omega, by show w.heap.size ≠ nb; omega⟩) (.pointer (some ⟨nb, 0, none⟩))))
            refine bodyPost_ret (v := .agg #[.pointer (some ⟨nb, 0, none⟩)]) (by simp [results, Try.results82, go_sem, y5]) rfl ⟨_, rfl, ⟨H.out.2.2.2.1, .inr ⟨hz0, nb, rfl, hdone⟩⟩, ?_⟩
            exact ((below_chain2 bwr hb6).setCell (p := ⟨nb, 1, none⟩) (by show w.heap.size ≤ nb; omega) _).setCell (p := ⟨w.heap.size, 0, none⟩) (Nat.le_refl _) _
      | succ j =>
        have ej1 : (((j + 1 : Nat) : Int)) - 1 = (j : Int) := by omega
        rw [ej1]
        clear ej1
        obtain ⟨ej, hej⟩ : ∃ e, (plist x)[j]? = some e := ⟨_, List.getElem?_eq_getElem (by have := H.out.2.2.2.2; omega)⟩
        obtain ⟨e0, e1⟩ := HC.out _ (HBEL.out _ hE)
        obtain ⟨va, vn, vc, hvn, e2, hvt, hvb⟩ := e1 j ej hej
        clear e1
        have hvn3 : vn ≤ 300 := by rw [hvn]; exact H.out.2.1.2.1 ej (mem_plist.1 (List.mem_of_getElem? hej))
        have HF := Sealed.mk (And.intro hE (And.intro hrow (And.intro hui (And.intro hej (And.intro hvn (And.intro hvt hvb)))))); clear hE hrow hui hej hvn hvt hvb
        have hjz : (0 : Int) ≤ (j : Int) := by omega
        go_wp2_with fail
        go_loopg [42] vn (fun jj iv W => ∃ (k : Nat) (us : List Bool), jj = vn - k ∧ k ≤ vn ∧ iv = .int .i64 (k : Int) ∧ Ext (fun q => q = bu) W2 W ∧ W.ownsRow bu 4 1 (.slice (some ⟨bu, 0, none⟩) (i + 1) (i + 1)) (i + 1) (us.map fun b => Value.bool b) ∧ UK x i z j k us ∧ TL W (.slice va vn vc) (enc (pvs x) (ej : Int)))
        case atStart => exact ⟨0, us, rfl, Nat.zero_le _, rfl, HF.out.1, HF.out.2.1, UK.start HF.out.2.2.1, HF.out.2.2.2.2.2.1⟩
        case round =>
          obtain ⟨k, us, rfl, hk, rfl, hE, hrow, huk, hvt⟩ := hrel
          by_cases hkl : k < vn
          · obtain ⟨⟨m, f⟩, ht⟩ : ∃ t, (form (ej : Int))[k]? = some t := ⟨_, List.getElem?_eq_getElem (by have := HF.out.2.2.2.2.1; unfold wl at this; omega)⟩
            have hfe : f ∈ exps (ej : Int) := mem_exps.2 ⟨_, List.mem_of_getElem? ht, rfl⟩
            have hte : (enc (pvs x) (ej : Int))[k]? = some (m, (plist x).idxOf f) := by simp [enc, ht, pvs_idxOf]
            obtain ⟨-, -, -, hcell⟩ := hvt.cells
            obtain ⟨bb, oo, rfl, h1, h2⟩ := hcell k _ hte
            have hqj := idx_ahead HF.out.2.2.2.1 hfe
            have hlu := huk.ui.len
            obtain ⟨q, hq⟩ : ∃ q, q = (plist x).idxOf f := ⟨_, rfl⟩
            rw [← hq] at h2 hqj
            simp only at h1 h2
            obtain ⟨o, ho⟩ : ∃ o, us[q]? = some o := ⟨_, List.getElem?_eq_getElem (by omega)⟩
            obtain ⟨c, hc⟩ : ∃ c, us[j]? = some c := ⟨_, List.getElem?_eq_getElem (by omega)⟩
            have hstep := UK.step (m := m) (o := o) (c := c) H.out.2.2.1 (by omega) huk HF.out.2.2.2.1 ht (by rw [← hq]; exact ho) hc
            rw [← hq] at hstep
            obtain ⟨W4, hW4⟩ : ∃ W4, W4 = wr.alloc (.cells #[.bool m, .int .i64 (q : Int)] 98) := ⟨_, rfl⟩
            have kb4 : W4.heap[wr.heap.size]? = some (.cells #[.bool m, .int .i64 (q : Int)] 98 (0, 0)) := by rw [hW4]; exact blk_alloc _ _
            have k1 : W4.drew.cell? ⟨wr.heap.size, 1, none⟩ = some (.int .i64 (q : Int)) := (cell_of_blk (show W4.drew.heap[wr.heap.size]? = _ from kb4) 1).trans rfl
            have hrow4 : W4.ownsRow bu 4 1 (.slice (some ⟨bu, 0, none⟩) (i + 1) (i + 1)) (i + 1) (us.map fun b => Value.bool b) := by rw [hW4]; exact hrow.alloc _
            have r1 : W4.drew.cell? ⟨bu, q, none⟩ = some (.bool o) := own_cell hrow4 (b := bu) rfl (by rw [List.getElem?_map, ho]; rfl)
            have r2 : W4.drew.cell? ⟨bu, j, none⟩ = some (.bool c) := own_cell hrow4 (b := bu) rfl (by rw [List.getElem?_map, hc]; rfl)
            have r3 : W4.drew.frozen? ⟨bu, q, none⟩ = false := own_free hrow4 (b := bu) rfl q
            have hE4 : Ext (fun q => q = bu) W2 W4.drew := by rw [hW4]; exact (hE.alloc _).drew
            have hvt4 : TL W4.drew (.slice (some ⟨bb, oo, none⟩) vn vc) (enc (pvs x) (ej : Int)) := hvt.ext (M := noB) (by rw [hW4]; exact ((Ext.refl noB wr).alloc _).drew) (fun _ _ h => h)
            have hbv : bb ≠ bu := fun e => by have := HF.out.2.2.2.2.2.2 bb rfl; have := H2.out.2.2.2.2; omega
            have HG := Sealed.mk (And.intro hE4 (And.intro hrow4 (And.intro hstep (And.intro hvt4 hbv)))); clear hE hrow huk hvt hcell hte hq hlu ho hc hstep kb4 hrow4 hE4 hvt4 hfe ht hbv
            have hqi : q < i + 1 := by omega
            have hji : j < i + 1 := by omega
            have hqi2 : (q : Int) < (i : Int) + 1 := by omega
            have hji2 : (j : Int) < (i : Int) + 1 := by omega
            have hqz : (0 : Int) ≤ (q : Int) := by omega
            cases o
            all_goals
              go_upto_region 11 with fail
              rw [← hW4]
              have HW4 := Sealed.mk hW4; clear hW4
              refine wp_region_still_tail 15 (by kernel_rfl) (by kernel_rfl) ?_
              simp only [List.take_succ_cons, List.take_zero, List.drop_succ_cons, List.drop_zero]
              (repeat still_step)
              refine wpStill_nil ?_
              change wpList _ _ _ _ _ W4.drew
              go_wp2_with fail
              go_roundg (vn - (k + 1))
              case measure => omega
              case rel =>
                obtain ⟨hE4, hrow4, hstep, hvt4, hbv⟩ := HG.out
                have hx5 : ∀ u, Ext (fun q => q = bu) W4.drew (W4.drew.setCell ⟨bu, q, none⟩ u) := fun u => (Ext.refl (fun q => q = bu) W4.drew).setCell (p := ⟨bu, q, none⟩) (.inl rfl) u
                have hr5 := fun u => own_set (show W4.drew.ownsRow bu 4 1 (.slice (some ⟨bu, 0, none⟩) (i + 1) (i + 1)) (i + 1) (us.map fun b => Value.bool b) from hrow4) (b := bu) rfl (j := q) (by omega) u
                refine ⟨k + 1, _, rfl, by omega, by push_cast; rfl, hE4.same (hx5 _), ?_, hstep, hvt4.ext (hx5 _) (fun b hb e => hbv (by rw [← e]; exact Option.some.inj hb))⟩
                rw [List.map_set]
                exact hr5 _
          · have hkk : k = (form (ej : Int)).length := by have := HF.out.2.2.2.2.1; unfold wl at this; omega
            rw [hkk] at huk
            have hui2 := huk.done HF.out.2.2.2.1
            have HG := Sealed.mk (And.intro hE (And.intro hrow hui2)); clear hE hrow huk hvt hui2 hkk
            go_wp2_with fail
            go_roundg j
            case measure => omega
            case rel => exact ⟨j, us, rfl, by omega, rfl, HG.out.1, HG.out.2.1, HG.out.2.2⟩
end Go.Proofs.Ytgchfbfgjanaiaa
