/- sandreckonerref04: code, Allowed, WayOf -/
import Derived.Test.YthmagdibjbadaaaJ18
set_option linter.unusedSimpArgs false
set_option linter.unusedVariables false
namespace Go.Proofs.Ythmagdibjbadaaa
open Go.RowKit

set_option maxRecDepth 100000 in
theorem code_any {m : Int} (h2 : m ≤ 60) {s : St} (hs : OkSt m s) (w : World) : Calls Try.prog 16 #[stv s, .int .i64 m] w fun e w' => e = .returned (.int .i64 (cod m s)) ∧ Below w.heap.size w w' := by
  have hr := cod_range hs
  have hm : 0 < m := by have := hs.1; omega
  have hc := cube_le hm h2
  obtain ⟨a, b, c⟩ := s
  obtain ⟨⟨a1, a2⟩, ⟨b1, b2⟩, c1, c2⟩ := hs
  have q1 := mulq a1 a2 (show 0 ≤ m - 1 by omega) (show m - 1 < m by omega) h2
  have hl := lin a1 a2 b1 b2
  simp only at a1 a2 b1 b2 c1 c2 q1 hl
  unfold cod at hr ⊢
  simp only at hr ⊢
  have e0 : a * m = a * (m - 1) + a := by rw [Int.mul_sub]; omega
  have hmm : m * m ≤ 3600 := by
    have := Int.mul_le_mul (show m ≤ 60 by omega) (show m ≤ 60 by omega) (by omega) (by omega)
    omega
  have w1 : wrap64 (a * m) = a * m := by unfold wrap64; omega
  have w2 : wrap64 (a * m + b) = a * m + b := by unfold wrap64; omega
  have h3 : 0 ≤ (a * m + b) * m := Int.mul_nonneg hl.1 (by omega)
  have w3 : wrap64 ((a * m + b) * m) = (a * m + b) * m := by unfold wrap64; omega
  have w4 : wrap64 ((a * m + b) * m + c) = (a * m + b) * m + c := by unfold wrap64; omega
  clear e0 q1 hl h3 hmm hr hc
  unfold stv
  go_enter Try.func16, Try.ntmps16
  go_wp2_with fail
  go_ret
  refine ⟨?_, ?_⟩
  · first | rfl | (simp only [w1, w2, w3, w4]; rfl) | simp
  · repeat (first | exact Below.refl _ _ | refine below_st ?_ _)

set_option maxRecDepth 100000 in
theorem allowed04_any (m : Int) (w : World) : Calls Try.prog 7 #[.int .i64 m] w fun e w' => e = .returned (.bool (decide (1 ≤ m ∧ m ≤ 60))) ∧ w' = w := by
  by_cases h1 : 1 ≤ m
  · go_enter Try.func7, Try.ntmps7
    go_wp2_with fail
    go_ret
    exact ⟨by simp [h1], rfl⟩
  · have h3 : ¬ (1 ≤ m ∧ m ≤ 60) := fun h => h1 h.1
    have h4 : m < 1 := by omega
    go_enter Try.func7, Try.ntmps7
    go_wp2_with fail
    go_ret
    exact ⟨by simp [h3], rfl⟩

theorem below_mono {n k : Nat} {w W : World} (h : Below k w W) (hn : n ≤ k) : Below n w W := ⟨h.os, h.tape, h.output, h.size, fun q hq => h.block q (by omega)⟩

/-- what seen tells of a state -/
def seenAt (L : List St) (s : St) : Int := if s ∈ L then (L.idxOf s : Int) + 1 else 0

/-- what WayOf's loop holds: N the heap's size at its start; the turn in block N, the result in N + 2, seen in N + 3, the state in bc, the way in bo -/
structure RL0 (w0 W : World) (N : Nat) (t : Nat → Int) (m : Int) (L : List St) (cur : St) (bc bo : Nat) : Prop where
  below : Below N w0 W
  sizes : N + 4 ≤ bc ∧ N + 4 ≤ bo ∧ bc ≠ bo ∧ bc < W.heap.size ∧ bo < W.heap.size
  turn : W.heap[N]? = some (.cells (turnCells t) 25 (0, 0))
  res : W.heap[N + 1 + 1]? = some (.cells #[.slice none 0 0, .int .i64 0] 37 (0, 0))
  cur : W.heap[bc]? = some (.cells #[.int .i64 cur.1, .int .i64 cur.2.1, .int .i64 cur.2.2] 26 (0, 0))
  seen : ∃ cs : Array Value, W.heap[N + 1 + 1 + 1]? = some (.cells cs 3 (0, 0)) ∧ ∀ s, OkSt m s → cs[(cod m s).toNat]? = some (.int .i64 (seenAt L s))
  way : ∃ av, W.heap[bo]? = some (.cells #[av, .int .i64 0] 37 (0, 0)) ∧ W.ownsRow (N + 4) 26 3 av L.length (scells L) ∧ av.ownBlock ≠ some bc ∧ av.ownBlock ≠ some bo

theorem made_zero (n i : Nat) (h : i < n) : (madeCells #[Value.int .i64 0] n)[i]? = some (.int .i64 0) := by
  have e : (madeCells #[Value.int .i64 0] n)[i]? = (madeCells #[Value.int .i64 0] n).toList[i]? := by simp
  rw [e, toList_madeCells_one]
  simp [h]

set_option maxRecDepth 100000 in
set_option maxHeartbeats 4000000 in
theorem wayOf_any {w : World} {t : Nat → Int} {m : Int} (hm : 0 < m) (h2 : m ≤ 60) {s : St} :
    Calls Try.prog 8 #[turnv t, stv s, .int .i64 m] w fun e w' => ∃ L lead a c, e = .returned (.agg #[.slice a L.length c, .int .i64 (lead : Nat)]) ∧ IsWay (nx t m) (fst m s) L lead ∧ Below w.heap.size w w' := by
  obtain ⟨N, hN⟩ : ∃ N, N = w.heap.size := ⟨_, rfl⟩
  obtain ⟨bound, hbound⟩ : ∃ b : Nat, b = (m * m * m).toNat := ⟨_, rfl⟩
  have hcube := cube_le hm h2
  have hbd : m * m * m = (bound : Int) := by omega
  have hmm : 0 < m * m ∧ m * m ≤ 3600 := by
    have h1 := Int.mul_pos hm hm
    have := Int.mul_le_mul (show m ≤ 60 by omega) (show m ≤ 60 by omega) (by omega) (by omega)
    omega
  have w1 : wrap64 (m * m) = m * m := by unfold wrap64; omega
  have w2 : wrap64 (m * m * m) = (bound : Int) := by rw [hbd]; unfold wrap64; omega
  have hmk := fun W => run_mk el_int bound (by omega) W
  have hfi := first_any s m hm h2
  have HFI := Sealed.mk hfi; clear hfi
  have HB := Sealed.mk (And.intro hbound (And.intro hcube hbd)); clear hbound hcube hbd hmm
  unfold stv at HFI
  unfold turnv stv
  go_enter Try.func8, Try.ntmps8
  go_wp2_with (go_at_call 15; go_must (refine (HFI.out _).mono ?_; rintro e w3 ⟨rfl, hb3⟩))
  obtain ⟨Wm, hWm⟩ : ∃ Wm, Wm = (((w.alloc (.cells (turnCells t) 25)).alloc (.cells #[.int .i64 s.1, .int .i64 s.2.1, .int .i64 s.2.2] 26)).alloc (.cells #[.slice none 0 0, .int .i64 0] 37)).alloc (.cells (madeCells #[.int .i64 0] bound) 3) := ⟨_, rfl⟩
  obtain ⟨W0, hW0⟩ : ∃ W0, W0 = (w3.alloc (.cells #[.int .i64 (fst m s).1, .int .i64 (fst m s).2.1, .int .i64 (fst m s).2.2] 26)).alloc (.cells #[.slice none 0 0, .int .i64 0] 37) := ⟨_, rfl⟩
  have hA : RL0 w W0 N t m [] (fst m s) w3.heap.size (w3.heap.size + 1) := by
    have hbm : Below Wm.heap.size Wm w3 := by rw [hWm]; exact hb3
    have x0 := blk_alloc w (.cells (turnCells t) 25)
    have x2 := blk_alloc ((w.alloc (.cells (turnCells t) 25)).alloc (.cells #[.int .i64 s.1, .int .i64 s.2.1, .int .i64 s.2.2] 26)) (.cells #[.slice none 0 0, .int .i64 0] 37)
    have x3 := blk_alloc (((w.alloc (.cells (turnCells t) 25)).alloc (.cells #[.int .i64 s.1, .int .i64 s.2.1, .int .i64 s.2.2] 26)).alloc (.cells #[.slice none 0 0, .int .i64 0] 37)) (.cells (madeCells #[.int .i64 0] bound) 3)
    have e2 : ((w.alloc (.cells (turnCells t) 25)).alloc (.cells #[.int .i64 s.1, .int .i64 s.2.1, .int .i64 s.2.2] 26)).heap.size = N + 1 + 1 := by simp [hN]
    have e3 : (((w.alloc (.cells (turnCells t) 25)).alloc (.cells #[.int .i64 s.1, .int .i64 s.2.1, .int .i64 s.2.2] 26)).alloc (.cells #[.slice none 0 0, .int .i64 0] 37)).heap.size = N + 1 + 1 + 1 := by simp [hN]
    rw [← hN] at x0
    rw [e2] at x2
    rw [e3] at x3
    have y0 := blk_alloc_old (blk_alloc_old (blk_alloc_old x0 (.cells #[.int .i64 s.1, .int .i64 s.2.1, .int .i64 s.2.2] 26)) (.cells #[.slice none 0 0, .int .i64 0] 37)) (.cells (madeCells #[.int .i64 0] bound) 3)
    have y2 := blk_alloc_old x2 (.cells (madeCells #[.int .i64 0] bound) 3)
    rw [← hWm] at y0 y2 x3
    have hbw : Below N w Wm := by
      rw [hWm, hN]
      repeat (first | exact Below.refl _ _ | refine below_st ?_ _)
    have hsm : Wm.heap.size = N + 4 := by rw [hWm]; simp [hN]
    have hs3 : N + 4 ≤ w3.heap.size := by have := hbm.size; omega
    have c0 := blk_alloc w3 (.cells #[.int .i64 (fst m s).1, .int .i64 (fst m s).2.1, .int .i64 (fst m s).2.2] 26)
    have c1 := blk_alloc (w3.alloc (.cells #[.int .i64 (fst m s).1, .int .i64 (fst m s).2.1, .int .i64 (fst m s).2.2] 26)) (.cells #[.slice none 0 0, .int .i64 0] 37)
    have e5 : (w3.alloc (.cells #[.int .i64 (fst m s).1, .int .i64 (fst m s).2.1, .int .i64 (fst m s).2.2] 26)).heap.size = w3.heap.size + 1 := by simp
    rw [e5, ← hW0] at c1
    have c0' := blk_alloc_old c0 (.cells #[.slice none 0 0, .int .i64 0] 37)
    rw [← hW0] at c0'
    have hx : Ext noB w3 W0 := by rw [hW0]; exact ((Ext.refl noB w3).alloc _).alloc _
    have hk : ∀ {q : Nat} {o : Obj}, Wm.heap[q]? = some o → W0.heap[q]? = some o := fun {q o} h => hx.get ((hbm.block q (lt_of_blk h)).trans h) fun e => e
    refine ⟨?_, ⟨by omega, by omega, by omega, lt_of_blk c0', lt_of_blk c1⟩, hk y0, hk y2, c0', ⟨_, hk x3, fun s' hs' => ?_⟩, ⟨.slice none 0 0, c1, ⟨rfl, .inl ⟨rfl, rfl⟩⟩, by simp [Value.ownBlock], by simp [Value.ownBlock]⟩⟩
    · exact ⟨hx.os.trans (hbm.os.trans hbw.os), hx.tape.trans (hbm.tape.trans hbw.tape), hx.output.trans (hbm.output.trans hbw.output), Nat.le_trans hbw.size (Nat.le_trans hbm.size hx.size), fun k hk' => (hx.block k (by omega) fun e => e).trans ((hbm.block k (by omega)).trans (hbw.block k hk'))⟩
    · have hr := cod_range hs'
      rw [made_zero _ _ (by have := HB.out.2.2; have := HB.out.1; omega)]
      simp [seenAt]
  rw [← hW0, ← hN]
  have HA := Sealed.mk hA; clear hA
  have HW0 := Sealed.mk (And.intro hW0 (And.intro hN (And.intro hWm hb3))); clear hW0 hN hWm hb3
  have hbc0 : w3.heap.size + 1 = w3.heap.size + 1 := rfl
  go_loopg [] bound (fun j W => ∃ L : List St, j = bound - L.length ∧ L.length ≤ bound ∧ WayTo (nx t m) (fst m s) L ∧ RL0 w W N t m L (itr (nx t m) (fst m s) L.length) w3.heap.size (w3.heap.size + 1))
  case atStart => exact ⟨[], rfl, Nat.zero_le _, WayTo.nil _ _, HA.out⟩
  case round =>
    obtain ⟨L, rfl, hL, hway, hA⟩ := hrel
    have hiok : OkSt m (itr (nx t m) (fst m s) L.length) := itr_ok (fun s _ => nx_ok hm t s) (fst_ok hm s) _
    have hmemok : ∀ s' ∈ L, OkSt m s' := fun s' hs => by
      obtain ⟨i, _, rfl⟩ := hway.mem hs
      exact itr_ok (fun s _ => nx_ok hm t s) (fst_ok hm s) _
    have hnext : nx t m (itr (nx t m) (fst m s) L.length) = itr (nx t m) (fst m s) (L.length + 1) := rfl
    obtain ⟨cur, hcur⟩ : ∃ cur, cur = itr (nx t m) (fst m s) L.length := ⟨_, rfl⟩
    rw [← hcur] at hA hiok hnext
    obtain ⟨n, hn⟩ : ∃ n, n = L.length := ⟨_, rfl⟩
    rw [← hn] at hL hnext hcur
    have hcr := cod_range hiok
    obtain ⟨ck, hck⟩ : ∃ ck : Nat, ck = (cod m cur).toNat := ⟨_, rfl⟩
    have hckz : cod m cur = (ck : Int) := by omega
    have hckb : ck < bound := by have := HB.out.2.2; omega
    have hcode := fun w => code_any h2 hiok w
    rw [hckz] at hcode
    obtain ⟨c1, c2, c3⟩ := cur
    simp only [stv] at hcode
    obtain ⟨av, hwb, hown, hne1, hne2⟩ := hA.way
    obtain ⟨aa, ac, rfl⟩ := own_slice hown
    rw [← hn] at hown hwb hne1 hne2
    obtain ⟨cs, hsb, hcs⟩ := hA.seen
    have hsee := hcs _ hiok
    rw [← hck] at hsee
    obtain ⟨sn, hsn⟩ : ∃ sn, sn = seenAt L (c1, c2, c3) := ⟨_, rfl⟩
    rw [← hsn] at hsee
    have HC := Sealed.mk hcode; clear hcode
    have hbz := hA.sizes
    -- what the cells hold, in whatever world that is grown
    have hfacts : ∀ w', Below wr.heap.size wr w' → w'.cell? ⟨w3.heap.size, 0, none⟩ = some (.int .i64 c1) ∧ w'.cell? ⟨w3.heap.size, 1, none⟩ = some (.int .i64 c2) ∧ w'.cell? ⟨w3.heap.size, 2, none⟩ = some (.int .i64 c3) ∧
        w'.cell? ⟨w3.heap.size + 1, 0, none⟩ = some (.slice aa n ac) ∧ w'.cell? ⟨w3.heap.size + 1, 1, none⟩ = some (.int .i64 0) ∧ w'.frozen? ⟨w3.heap.size + 1, 0, none⟩ = false ∧ w'.frozen? ⟨w3.heap.size + 1, 1, none⟩ = false ∧
        w'.cell? ⟨N + 1 + 1 + 1, ck, none⟩ = some (.int .i64 sn) ∧ w'.cell? ⟨N + 1 + 1, 0, none⟩ = some (.slice none 0 0) ∧ w'.cell? ⟨N + 1 + 1, 1, none⟩ = some (.int .i64 0) ∧ w'.frozen? ⟨N + 1 + 1, 0, none⟩ = false ∧ w'.frozen? ⟨N + 1 + 1, 1, none⟩ = false := fun w' hb => by
      have z1 := (hb.block _ (lt_of_blk hA.cur)).trans hA.cur
      have z2 := (hb.block _ (lt_of_blk hwb)).trans hwb
      have z3 := (hb.block _ (lt_of_blk hsb)).trans hsb
      have z4 := (hb.block _ (lt_of_blk hA.res)).trans hA.res
      exact ⟨(cell_of_blk z1 0).trans rfl, (cell_of_blk z1 1).trans rfl, (cell_of_blk z1 2).trans rfl, (cell_of_blk z2 0).trans rfl, (cell_of_blk z2 1).trans rfl, frozen_of_blk z2 0, frozen_of_blk z2 1,
        (cell_of_blk z3 ck).trans hsee, (cell_of_blk z4 0).trans rfl, (cell_of_blk z4 1).trans rfl, frozen_of_blk z4 0, frozen_of_blk z4 1⟩
    have HK := Sealed.mk hfacts; clear hfacts
    have HO := Sealed.mk (And.intro hown (And.intro hwb (And.intro hne1 (And.intro hne2 (And.intro hsb hcs))))); clear hown hwb hne1 hne2 hsb hcs hsee
    have HY := Sealed.mk (And.intro hway (And.intro hA (And.intro hiok (And.intro hmemok (And.intro hcur (And.intro hn (And.intro hck hckz))))))); clear hway hA hiok hmemok
    have HN := Sealed.mk hnext; clear hnext
    clear hcur hn hck hckz hcr
    obtain ⟨f0, f1, f2, f3, f4, f5, f6, f7, f8, f9, f10, f11⟩ := HK.out wr (Below.refl _ _)
    have HSN := Sealed.mk hsn; clear hsn
    by_cases hmem : (c1, c2, c3) ∈ L
    · have hs0 : ¬ sn = 0 := by rw [HSN.out]; unfold seenAt; rw [if_pos hmem]; omega
      have hwr : wrap64 (sn - 1) = (L.idxOf (c1, c2, c3) : Int) := by
        have h1 := List.idxOf_lt_length_of_mem hmem
        have h3 := HB.out.1
        have h4 := HB.out.2.1
        have h5 := HY.out.2.2.2.2.2.1
        rw [HSN.out]; unfold seenAt wrap64; rw [if_pos hmem]; omega
      obtain ⟨ld, hld⟩ : ∃ ld, ld = L.idxOf (c1, c2, c3) := ⟨_, rfl⟩
      rw [← hld] at hwr
      have HL := Sealed.mk (And.intro hld hmem); clear hld hmem
      clear f3 f4 f5 f6 f8 f9 f10 f11
      have hbb : Below wr.heap.size wr wr := Below.refl _ _
      go_wp2_with (go_at_call 16; go_must (refine (HC.out _).mono ?_; rintro e w5 ⟨rfl, hb5⟩; clear f0 f1 f2 f7; replace hbb := hbb.trans (below_mono hb5 hbb.size); clear hb5; obtain ⟨f0, f1, f2, f3, f4, f5, f6, f7, f8, f9, f10, f11⟩ := HK.out w5 hbb))
      obtain ⟨W9, hW9⟩ : ∃ W9, W9 = ((w5.setCell ⟨w3.heap.size + 1, 1, none⟩ (.int .i64 (ld : Int))).setCell ⟨N + 1 + 1, 0, none⟩ (.slice aa n ac)).setCell ⟨N + 1 + 1, 1, none⟩ (.int .i64 (ld : Int)) := ⟨_, rfl⟩
      obtain ⟨hway, hA, hiok, hmemok, hcur, hn, -, -⟩ := HY.out
      have z1 : W9.heap[N + 1 + 1]? = some (.cells #[.slice aa n ac, .int .i64 (ld : Int)] 37 (0, 0)) := by
        have e0 : (w5.setCell ⟨w3.heap.size + 1, 1, none⟩ (.int .i64 (ld : Int))).heap[N + 1 + 1]? = some (.cells #[.slice none 0 0, .int .i64 0] 37 (0, 0)) := by
          have hx : Ext (fun q => q = w3.heap.size + 1) w5 (w5.setCell ⟨w3.heap.size + 1, 1, none⟩ (.int .i64 (ld : Int))) := (Ext.refl (fun q => q = w3.heap.size + 1) w5).setCell (p := ⟨w3.heap.size + 1, 1, none⟩) (.inl rfl) _
          exact hx.get ((hbb.block _ (lt_of_blk hA.res)).trans hA.res) (by omega)
        rw [hW9, blk_setCell (blk_setCell e0 0 _) 1 _]
        rfl
      have z2 : W9.cell? ⟨N + 1 + 1, 0, none⟩ = some (.slice aa n ac) := (cell_of_blk z1 0).trans rfl
      have z3 : W9.cell? ⟨N + 1 + 1, 1, none⟩ = some (.int .i64 (ld : Int)) := (cell_of_blk z1 1).trans rfl
      rw [← hW9]
      refine bodyPost_ret (v := .agg #[.slice aa n ac, .int .i64 (ld : Int)]) (by simp [results, Try.results8, go_sem, z2, z3]) rfl ?_
      have hm' := HL.out.2
      rw [hcur, hn] at hm'
      have hx9 : Ext (fun q => N ≤ q) w5 W9 := by
        rw [hW9]
        exact (((Ext.refl (fun q => N ≤ q) w5).setCell (p := ⟨w3.heap.size + 1, 1, none⟩) (.inl (by show N ≤ w3.heap.size + 1; omega)) _).setCell (p := ⟨N + 1 + 1, 0, none⟩) (.inl (by show N ≤ N + 1 + 1; omega)) _).setCell (p := ⟨N + 1 + 1, 1, none⟩) (.inl (by show N ≤ N + 1 + 1; omega)) _
      have hN := HW0.out.2.1
      refine ⟨L, ld, aa, ac, by rw [hn], ?_, ?_⟩
      · rw [HL.out.1, hcur, hn]
        exact hway.done hm'
      · have hb := hA.below
        have hs1 := hb.size
        have hs2 := hbb.size
        rw [← hN]
        exact ⟨hx9.os.trans (hbb.os.trans hb.os), hx9.tape.trans (hbb.tape.trans hb.tape), hx9.output.trans (hbb.output.trans hb.output), Nat.le_trans hs1 (Nat.le_trans hs2 hx9.size), fun k hk => (hx9.block k (by omega) (by omega)).trans ((hbb.block k (by omega)).trans (hb.block k hk))⟩
    · have hs0 : sn = 0 := by rw [HSN.out]; unfold seenAt; rw [if_neg hmem]
      have HL := Sealed.mk hmem; clear hmem
      have HS0 := Sealed.mk (HSN.out.symm.trans hs0 : seenAt L (c1, c2, c3) = 0)
      rw [hs0] at f7
      have HK0 : Sealed (∀ w', Below wr.heap.size wr w' → w'.cell? ⟨w3.heap.size, 0, none⟩ = some (.int .i64 c1) ∧ w'.cell? ⟨w3.heap.size, 1, none⟩ = some (.int .i64 c2) ∧ w'.cell? ⟨w3.heap.size, 2, none⟩ = some (.int .i64 c3) ∧
        w'.cell? ⟨w3.heap.size + 1, 0, none⟩ = some (.slice aa n ac) ∧ w'.frozen? ⟨w3.heap.size + 1, 0, none⟩ = false ∧ w'.cell? ⟨N + 1 + 1 + 1, ck, none⟩ = some (.int .i64 0)) := ⟨fun w' hb => by
          obtain ⟨f0, f1, f2, f3, f4, f5, f6, f7, -⟩ := HK.out w' hb
          exact ⟨f0, f1, f2, f3, f5, by rw [← hs0]; exact f7⟩⟩
      clear hs0 f3 f4 f5 f6 f8 f9 f10 f11
      have hnb : n ≤ 216000 := by have := HB.out.1; have := HB.out.2.1; omega
      have hbb : Below wr.heap.size wr wr := Below.refl _ _
      go_upto_region 5 with (go_at_call 16; go_must (refine (HC.out _).mono ?_; rintro e w5 ⟨rfl, hb5⟩; clear f0 f1 f2 f7; replace hbb := hbb.trans (below_mono hb5 hbb.size); clear hb5; obtain ⟨f0, f1, f2, f3, f5, f7⟩ := HK0.out w5 hbb))
      have own5 := own_ext HO.out.1 (Ext.of_below (M := noB) hbb) fun _ _ e => e
      have hsz5 : N + 4 ≤ w5.heap.size := by have := hbb.size; omega
      have HBB := Sealed.mk hbb; clear hbb
      clear f7
      go_wp2_with (at_builtin; go_must (refine ap_litp (m := 1) el_state (.tmp 27) (.tmp 29) rfl rfl rfl own5 rfl (by simp) rfl (by decide) ?h1 ?h2 ?h3 ?h4))
      case h1 => simp [Value.oneCell']
      case h2 => omega
      case h3 => exact hsz5
      case h4 =>
        intro gb gc w6 hown6 hgrow6 hnew6
        have hx56 : Ext (fun q => (Value.slice aa n ac).ownBlock = some q) w5 w6 := ⟨hgrow6.os, hgrow6.tape, hgrow6.output, hgrow6.size, fun q hq hn => hgrow6.block q hq fun e => hn e.symm⟩
        have hav := fun q hq => (own5.lt q hq).1
        have hkeep : ∀ q, q < wr.heap.size → (Value.slice aa n ac).ownBlock ≠ some q → w6.heap[q]? = wr.heap[q]? := fun q h1 h3 => (hx56.block q (Nat.lt_of_lt_of_le h1 HBB.out.size) h3).trans (HBB.out.block q h1)
        have zb : w6.heap[w3.heap.size + 1]? = some (.cells #[.slice aa n ac, .int .i64 0] 37 (0, 0)) := (hkeep _ (lt_of_blk HO.out.2.1) HO.out.2.2.2.1).trans HO.out.2.1
        have q6 : w6.cell? ⟨w3.heap.size + 1, 0, none⟩ = some (.slice aa n ac) := (cell_of_blk zb 0).trans rfl
        have q6f : w6.frozen? ⟨w3.heap.size + 1, 0, none⟩ = false := frozen_of_blk zb 0
        have zc : w6.heap[w3.heap.size]? = some (.cells #[.int .i64 c1, .int .i64 c2, .int .i64 c3] 26 (0, 0)) := (hkeep _ hbz.2.2.2.1 HO.out.2.2.1).trans HY.out.2.1.cur
        have zs : w6.heap[N + 1 + 1 + 1]? = some (.cells cs 3 (0, 0)) := (hkeep _ (lt_of_blk HO.out.2.2.2.2.1) (fun e => by have := hav _ e; omega)).trans HO.out.2.2.2.2.1
        have zt : w6.heap[N]? = some (.cells (turnCells t) 25 (0, 0)) := (hkeep _ (lt_of_blk HY.out.2.1.turn) (fun e => by have := hav _ e; omega)).trans HY.out.2.1.turn
        have zr : w6.heap[N + 1 + 1]? = some (.cells #[.slice none 0 0, .int .i64 0] 37 (0, 0)) := (hkeep _ (lt_of_blk HY.out.2.1.res) (fun e => by have := hav _ e; omega)).trans HY.out.2.1.res
        have hb6 : Below N w w6 := by
          have hb := HY.out.2.1.below
          have hsz := hb.size
          have hNw := HW0.out.2.1
          exact ⟨hx56.os.trans (HBB.out.os.trans hb.os), hx56.tape.trans (HBB.out.tape.trans hb.tape), hx56.output.trans (HBB.out.output.trans hb.output), by have := HBB.out.size; have := hx56.size; omega, fun q hq => (hkeep q (by omega) (fun e => by have := hav _ e; omega)).trans (hb.block q hq)⟩
        obtain ⟨W7, hW7⟩ : ∃ W7, W7 = w6.setCell ⟨w3.heap.size + 1, 0, none⟩ (.slice (some ⟨gb, 0, none⟩) (n + 1) gc) := ⟨_, rfl⟩
        have e67 : Ext (fun q => q = w3.heap.size + 1) w6 W7 := by rw [hW7]; exact (Ext.refl (fun q => q = w3.heap.size + 1) w6).setCell (p := ⟨w3.heap.size + 1, 0, none⟩) (.inl rfl) _
        have yb : W7.heap[w3.heap.size + 1]? = some (.cells #[.slice (some ⟨gb, 0, none⟩) (n + 1) gc, .int .i64 0] 37 (0, 0)) := by rw [hW7, blk_setCell zb 0 _]; rfl
        have yc := e67.get zc (by omega)
        have ys := e67.get zs (by omega)
        have yt := e67.get zt (by omega)
        have yr := e67.get zr (by omega)
        have ks : ∀ w', Ext (fun q => q = N + 1 + 1 + 1) W7 w' → w'.cell? ⟨w3.heap.size, 0, none⟩ = some (.int .i64 c1) ∧ w'.cell? ⟨w3.heap.size, 1, none⟩ = some (.int .i64 c2) ∧ w'.cell? ⟨w3.heap.size, 2, none⟩ = some (.int .i64 c3) ∧ w'.cell? ⟨w3.heap.size + 1, 0, none⟩ = some (.slice (some ⟨gb, 0, none⟩) (n + 1) gc) := fun w' hx => by
          have v1 := hx.get yc (by omega)
          have v2 := hx.get yb (by omega)
          exact ⟨(cell_of_blk v1 0).trans rfl, (cell_of_blk v1 1).trans rfl, (cell_of_blk v1 2).trans rfl, (cell_of_blk v2 0).trans rfl⟩
        have hsee : cs[ck]? = some (.int .i64 0) := by
          have := HO.out.2.2.2.2.2 _ HY.out.2.2.1
          rw [← HY.out.2.2.2.2.2.2.1, HS0.out] at this
          exact this
        have HKS := Sealed.mk ks; clear ks
        have HX7 := Sealed.mk ((Ext.refl (fun q => q = N + 1 + 1 + 1) W7).drew)
        have H7 := Sealed.mk (And.intro e67 (And.intro yb (And.intro yc (And.intro ys (And.intro yt (And.intro yr (And.intro hsee (And.intro hb6 (And.intro hown6 (And.intro hnew6 (And.intro hx56 hkeep)))))))))))
        clear e67 yb yc ys yt yr hsee hb6 hown6 hnew6 hx56 hkeep zb zc zs zt zr hgrow6 hav own5 f0 f1 f2 f3 f5
        go_upto_region 6 with fail
        rw [← hW7]
        have HW7 := Sealed.mk hW7; clear hW7 q6 q6f
        go_region_held3 (fun w' => w'.cell? ⟨w3.heap.size, 0, none⟩ = some (.int .i64 c1) ∧ w'.cell? ⟨w3.heap.size, 1, none⟩ = some (.int .i64 c2) ∧ w'.cell? ⟨w3.heap.size, 2, none⟩ = some (.int .i64 c3) ∧ w'.cell? ⟨w3.heap.size + 1, 0, none⟩ = some (.slice (some ⟨gb, 0, none⟩) (n + 1) gc))
          (first | exact HKS.out _ HX7.out | exact HKS.out _ HX8.out | exact HKS.out _ (HX8.out.setCell (.inl rfl) _))
          (first
            | (go_at_call 16; go_must (refine (HC.out _).mono ?_; rintro e w8 ⟨rfl, hb8⟩; have HX8 := Sealed.mk (HX7.out.trans (Ext.of_below (M := noB) hb8) (fun _ h => h.elim)); have v8 := (hb8.block _ (lt_of_blk H7.out.2.2.2.1)).trans H7.out.2.2.2.1; have g7 : w8.cell? ⟨N + 1 + 1 + 1, ck, none⟩ = some (.int .i64 0) := (cell_of_blk v8 ck).trans H7.out.2.2.2.2.2.2.1; have g7f : w8.frozen? ⟨N + 1 + 1 + 1, ck, none⟩ = false := frozen_of_blk v8 ck; have H8 := Sealed.mk (And.intro hb8 v8); clear hb8 v8)))
        obtain ⟨W9, hW9⟩ : ∃ W9, W9 = w8.setCell ⟨N + 1 + 1 + 1, ck, none⟩ (.int .i64 ((n : Int) + 1)) := ⟨_, rfl⟩
        have e79 : Ext (fun q => q = N + 1 + 1 + 1) W7 W9 := by
          rw [hW9]
          exact HX8.out.setCell (p := ⟨N + 1 + 1 + 1, ck, none⟩) (.inl rfl) _
        have z9s : W9.heap[N + 1 + 1 + 1]? = some (.cells (cs.setIfInBounds ck (.int .i64 ((n : Int) + 1))) 3 (0, 0)) := by rw [hW9, blk_setCell H8.out.2 ck _]
        have z9t := e79.get H7.out.2.2.2.2.1 (by omega)
        have z9c := e79.get H7.out.2.2.1 (by omega)
        have z9b := e79.get H7.out.2.1 (by omega)
        have z9r := e79.get H7.out.2.2.2.2.2.1 (by omega)
        have t0 : W9.cell? ⟨N, 0, none⟩ = some (.int .i64 (t 0)) := (cell_of_blk z9t 0).trans rfl
        have t1 : W9.cell? ⟨N, 1, none⟩ = some (.int .i64 (t 1)) := (cell_of_blk z9t 1).trans rfl
        have t2 : W9.cell? ⟨N, 2, none⟩ = some (.int .i64 (t 2)) := (cell_of_blk z9t 2).trans rfl
        have t3 : W9.cell? ⟨N, 3, none⟩ = some (.int .i64 (t 3)) := (cell_of_blk z9t 3).trans rfl
        have t4 : W9.cell? ⟨N, 4, none⟩ = some (.int .i64 (t 4)) := (cell_of_blk z9t 4).trans rfl
        have t5 : W9.cell? ⟨N, 5, none⟩ = some (.int .i64 (t 5)) := (cell_of_blk z9t 5).trans rfl
        have t6 : W9.cell? ⟨N, 6, none⟩ = some (.int .i64 (t 6)) := (cell_of_blk z9t 6).trans rfl
        have t7 : W9.cell? ⟨N, 7, none⟩ = some (.int .i64 (t 7)) := (cell_of_blk z9t 7).trans rfl
        have t8 : W9.cell? ⟨N, 8, none⟩ = some (.int .i64 (t 8)) := (cell_of_blk z9t 8).trans rfl
        have t9 : W9.cell? ⟨N, 9, none⟩ = some (.int .i64 (t 9)) := (cell_of_blk z9t 9).trans rfl
        have t10 : W9.cell? ⟨N, 10, none⟩ = some (.int .i64 (t 10)) := (cell_of_blk z9t 10).trans rfl
        have t11 : W9.cell? ⟨N, 11, none⟩ = some (.int .i64 (t 11)) := (cell_of_blk z9t 11).trans rfl
        have p0 : W9.cell? ⟨w3.heap.size, 0, none⟩ = some (.int .i64 c1) := (cell_of_blk z9c 0).trans rfl
        have p1 : W9.cell? ⟨w3.heap.size, 1, none⟩ = some (.int .i64 c2) := (cell_of_blk z9c 1).trans rfl
        have p2 : W9.cell? ⟨w3.heap.size, 2, none⟩ = some (.int .i64 c3) := (cell_of_blk z9c 2).trans rfl
        have hnx := next04_any t (c1, c2, c3) m hm h2 HY.out.2.2.1 W9
        obtain ⟨d, hd⟩ : ∃ d, d = nx t m (c1, c2, c3) := ⟨_, rfl⟩
        rw [← hd] at hnx
        obtain ⟨d1, d2, d3⟩ := d
        simp only [stv, turnv] at hnx
        have HNX := Sealed.mk hnx; clear hnx
        have HD := Sealed.mk hd; clear hd
        have H9 := Sealed.mk (And.intro e79 (And.intro z9s (And.intro z9t (And.intro z9c (And.intro z9b z9r))))); clear e79 z9s z9t z9c z9b z9r
        have hh : ∀ (x : Value), (w8.setCell ⟨N + 1 + 1 + 1, ck, none⟩ x) = (w8.setCell ⟨N + 1 + 1 + 1, ck, none⟩ x) := fun _ => rfl
        clear hh
        first
          | rw [← hW9]
          | (have e9 : ((n : Int) + 1) = ((n + 1 : Nat) : Int) := by omega
             rw [e9] at hW9
             rw [← hW9]
             clear e9)
        clear hW9 g7 g7f
        go_wp2_with (go_at_call 17; go_must (refine HNX.out.mono ?_; rintro e w10 ⟨rfl, hb10⟩; have v10 := (hb10.block _ (lt_of_blk H9.out.2.2.2.1)).trans H9.out.2.2.2.1; have u0 : w10.cell? ⟨w3.heap.size, 0, none⟩ = some (.int .i64 c1) := (cell_of_blk v10 0).trans rfl; have u1 : w10.cell? ⟨w3.heap.size, 1, none⟩ = some (.int .i64 c2) := (cell_of_blk v10 1).trans rfl; have u2 : w10.cell? ⟨w3.heap.size, 2, none⟩ = some (.int .i64 c3) := (cell_of_blk v10 2).trans rfl; have uf0 : w10.frozen? ⟨w3.heap.size, 0, none⟩ = false := frozen_of_blk v10 0; have uf1 : w10.frozen? ⟨w3.heap.size, 1, none⟩ = false := frozen_of_blk v10 1; have uf2 : w10.frozen? ⟨w3.heap.size, 2, none⟩ = false := frozen_of_blk v10 2; have H10 := Sealed.mk (And.intro hb10 v10); clear hb10 v10))
        have hLn : L.length = n := HY.out.2.2.2.2.2.1.symm
        have hcn : (c1, c2, c3) = itr (nx t m) (fst m s) L.length := by rw [hLn]; exact HY.out.2.2.2.2.1
        have hpush := HY.out.1.push (by rw [← hcn]; exact HL.out)
        rw [← hcn] at hpush
        have hfew := few_states (m := m) (L := L ++ [(c1, c2, c3)]) hpush.nodup fun s hs => by
          rcases List.mem_append.1 hs with hs | hs
          · exact HY.out.2.2.2.1 s hs
          · simp at hs; subst hs; exact HY.out.2.2.1
        rw [← HB.out.1] at hfew
        simp only [List.length_append, List.length_cons, List.length_nil] at hfew
        have HPU := Sealed.mk hpush; clear hpush hcn
        go_roundg (bound - (n + 1))
        case measure => omega
        case rel =>
          refine ⟨L ++ [(c1, c2, c3)], by simp [hLn], by simp; omega, HPU.out, ?_⟩
          obtain ⟨hb10, v10⟩ := H10.out
          obtain ⟨e79, z9s, z9t, z9c, z9b, z9r⟩ := H9.out
          obtain ⟨e67, yb, yc, ys, yt, yr, hsee, hb6, hown6, hnew6, hx56, hkeep⟩ := H7.out
          obtain ⟨W11, hW11⟩ : ∃ W11, W11 = ((w10.setCell ⟨w3.heap.size, 0, none⟩ (.int .i64 d1)).setCell ⟨w3.heap.size, 1, none⟩ (.int .i64 d2)).setCell ⟨w3.heap.size, 2, none⟩ (.int .i64 d3) := ⟨_, rfl⟩
          rw [← hW11]
          have e11 : Ext (fun q => q = w3.heap.size) w10 W11 := by
            rw [hW11]
            exact (((Ext.refl (fun q => q = w3.heap.size) w10).setCell (p := ⟨w3.heap.size, 0, none⟩) (.inl rfl) _).setCell (p := ⟨w3.heap.size, 1, none⟩) (.inl rfl) _).setCell (p := ⟨w3.heap.size, 2, none⟩) (.inl rfl) _
          have e911 : Ext (fun q => q = w3.heap.size) W9 W11 := (Ext.of_below (M := fun q => q = w3.heap.size) hb10).trans e11 fun q hq => .inl hq
          have e611 : Ext (fun q => N ≤ q) w6 W11 := ((Ext.refl (fun q => N ≤ q) w6).trans e67 fun q hq => .inl (by show N ≤ q; omega)).trans ((e79.imp (M := fun q => N ≤ q) fun q hq => .inl (by show N ≤ q; omega)).trans e911 fun q hq => .inl (by show N ≤ q; omega)) fun q hq => .inl hq
          have hgn : gb ≠ w3.heap.size ∧ gb ≠ w3.heap.size + 1 ∧ N + 4 ≤ gb := by
            have h1 := (hown6.lt gb rfl).1
            rcases hnew6 with e | ⟨q, e, hq⟩
            · have e' : (Value.slice aa n ac).ownBlock = some gb := e.symm
              exact ⟨fun h => HO.out.2.2.1 (h ▸ e'), fun h => HO.out.2.2.2.1 (h ▸ e'), h1⟩
            · have e' : gb = q := Option.some.inj e
              have := HBB.out.size
              exact ⟨by omega, by omega, h1⟩
          have hA := HY.out.2.1
          have hsz : w6.heap.size ≤ W11.heap.size := e611.size
          have hsw : wr.heap.size ≤ w6.heap.size := Nat.le_trans HBB.out.size hx56.size
          refine ⟨?_, ⟨hbz.1, hbz.2.1, hbz.2.2.1, by omega, by omega⟩, e911.get z9t (by omega), e911.get z9r (by omega), ?_, ⟨_, e911.get z9s (by omega), fun s' hs' => ?_⟩, ⟨.slice (some ⟨gb, 0, none⟩) (n + 1) gc, e911.get z9b (by omega), ?_, ?_, ?_⟩⟩
          · exact ⟨e611.os.trans hb6.os, e611.tape.trans hb6.tape, e611.output.trans hb6.output, Nat.le_trans hb6.size e611.size, fun k hk => (e611.block k (by have := hb6.size; omega) (by omega)).trans (hb6.block k hk)⟩
          · have e : itr (nx t m) (fst m s) (L ++ [(c1, c2, c3)]).length = (d1, d2, d3) := by
              rw [HD.out, HN.out]; simp [hLn]
            rw [e, hW11, blk_setCell (blk_setCell (blk_setCell v10 0 _) 1 _) 2 _]
            rfl
          · have hkk := HY.out.2.2.2.2.2.2.1
            have hr := cod_range hs'
            have hr2 := cod_range HY.out.2.2.1
            rw [Array.getElem?_setIfInBounds]
            by_cases hs1 : s' = (c1, c2, c3)
            · subst hs1
              have hlt : ck < cs.size := (Array.getElem?_eq_some_iff.1 hsee).1
              rw [if_pos hkk, if_pos (by omega)]
              have := HL.out
              simp [seenAt, List.idxOf_append, this, hLn]
            · have hne : ck ≠ (cod m s').toNat := fun e => hs1 (cod_inj hs' HY.out.2.2.1 (by omega))
              rw [if_neg hne, HO.out.2.2.2.2.2 s' hs']
              unfold seenAt
              by_cases hsl : s' ∈ L
              · simp [hsl, List.idxOf_append]
              · simp [hsl, hs1]
          · have e : (L ++ [(c1, c2, c3)]).length = n + 1 := by simp [hLn]
            rw [e, scells_append]
            have own7 := own_ext hown6 e67 fun k hk e => by have e' : gb = k := Option.some.inj hk; omega
            have own9 := own_ext own7 e79 fun k hk e => by have e' : gb = k := Option.some.inj hk; omega
            exact own_ext own9 e911 fun k hk e => by have e' : gb = k := Option.some.inj hk; omega
          · exact fun e => hgn.1 (Option.some.inj e)
          · exact fun e => hgn.2.1 (Option.some.inj e)

end Go.Proofs.Ythmagdibjbadaaa
