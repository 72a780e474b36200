/- turn.along -/
import Derived.Test.YthmagdibjbadaaaJ02
import Derived.Test.YthmagdibjbadaaaJ17
set_option linter.unusedSimpArgs false
set_option linter.unusedVariables false
namespace Go.Proofs.Ythmagdibjbadaaa
open Go.RowKit

/-- what along's loop holds: N the heap's size at its start, the map in block N + 2, the way in block N + 3, the state in block bc -/
structure AL0 (w0 W : World) (N : Nat) (L : List St) (cur : St) (bc : Nat) : Prop where
  below : Below N w0 W
  size : N + 4 ≤ bc ∧ bc < W.heap.size
  res : W.heap[N + 1]? = some (.cells #[.slice none 0 0, .int .i64 0] 43 (0, 0))
  cur : W.heap[bc]? = some (.cells #[.int .i64 cur.1, .int .i64 cur.2.1, .int .i64 cur.2.2] 26 (0, 0))
  map : ∃ l, MapIs stv W (N + 2) l ∧ KeysApart l ∧ ∀ s, lookK l s = if s ∈ L then some (L.idxOf s : Int) else none
  way : ∃ av, W.heap[N + 3]? = some (.cells #[av, .int .i64 0] 43 (0, 0)) ∧ W.ownsRow (N + 4) 26 3 av L.length (scells L) ∧ av.ownBlock ≠ some bc

set_option maxRecDepth 100000 in
set_option maxHeartbeats 4000000 in
theorem along_any {w : World} {m : Int} (hm : 0 < m) (h2 : m ≤ 60) {f : St → St} (hok : ∀ s, OkSt m s → OkSt m (f s)) {s0 : St} (h0 : OkSt m s0) {g : Nat} {cb : Array Value} (eg : ∀ args w, (callFunc g args).run Try.prog w = .ok (.enter g args) w)
    (hf : ∀ s, OkSt m s → ∀ w', Below w.heap.size w w' → Calls Try.prog g (#[stv s] ++ cb) w' fun e w'' => e = .returned (stv (f s)) ∧ Below w'.heap.size w' w'') :
    Calls Try.prog 10 #[stv s0, .func (.func g) #[] cb] w fun e w' => ∃ L lead a c, e = .returned (.agg #[.slice a L.length c, .int .i64 (lead : Nat)]) ∧ IsWay f s0 L lead ∧ w'.ownsRow w.heap.size 26 3 (.slice a L.length c) L.length (scells L) ∧
      Below w.heap.size w w' ∧ ∀ s ∈ L, OkSt m s := by
  obtain ⟨N, hN⟩ : ∃ N, N = w.heap.size := ⟨_, rfl⟩
  have hmm := @run_makeMap Try.prog
  have HF := Sealed.mk (And.intro hok (And.intro h0 hf)); clear hok h0 hf
  obtain ⟨bound, hbound⟩ : ∃ b : Nat, b = (m * m * m).toNat := ⟨_, rfl⟩
  have hcube := cube_le hm h2
  have HB := Sealed.mk (And.intro hbound hcube); clear hbound hcube
  unfold stv
  go_enter Try.func10, Try.ntmps10
  go_wp2_with fail
  rw [← hN]
  obtain ⟨W0, hW0⟩ : ∃ W0, W0 = ((((w.alloc (.cells #[.int .i64 s0.1, .int .i64 s0.2.1, .int .i64 s0.2.2] 26)).alloc (.cells #[.slice none 0 0, .int .i64 0] 43)).alloc (.map #[] 0)).alloc (.cells #[.slice none 0 0, .int .i64 0] 43)).alloc (.cells #[.int .i64 s0.1, .int .i64 s0.2.1, .int .i64 s0.2.2] 26) := ⟨_, rfl⟩
  have hA : AL0 w W0 N [] s0 (N + 4) := by
    have hb : Below N w W0 := by
      rw [hW0, hN]
      repeat (first | exact Below.refl _ _ | refine below_st ?_ _)
    have x1 := blk_alloc (w.alloc (.cells #[.int .i64 s0.1, .int .i64 s0.2.1, .int .i64 s0.2.2] 26)) (.cells #[.slice none 0 0, .int .i64 0] 43)
    have x2 := blk_alloc ((w.alloc (.cells #[.int .i64 s0.1, .int .i64 s0.2.1, .int .i64 s0.2.2] 26)).alloc (.cells #[.slice none 0 0, .int .i64 0] 43)) (.map #[] 0)
    have x3 := blk_alloc (((w.alloc (.cells #[.int .i64 s0.1, .int .i64 s0.2.1, .int .i64 s0.2.2] 26)).alloc (.cells #[.slice none 0 0, .int .i64 0] 43)).alloc (.map #[] 0)) (.cells #[.slice none 0 0, .int .i64 0] 43)
    have x4 := blk_alloc ((((w.alloc (.cells #[.int .i64 s0.1, .int .i64 s0.2.1, .int .i64 s0.2.2] 26)).alloc (.cells #[.slice none 0 0, .int .i64 0] 43)).alloc (.map #[] 0)).alloc (.cells #[.slice none 0 0, .int .i64 0] 43)) (.cells #[.int .i64 s0.1, .int .i64 s0.2.1, .int .i64 s0.2.2] 26)
    have e1 : (w.alloc (.cells #[.int .i64 s0.1, .int .i64 s0.2.1, .int .i64 s0.2.2] 26)).heap.size = N + 1 := by simp [hN]
    have e2 : ((w.alloc (.cells #[.int .i64 s0.1, .int .i64 s0.2.1, .int .i64 s0.2.2] 26)).alloc (.cells #[.slice none 0 0, .int .i64 0] 43)).heap.size = N + 2 := by simp [hN]
    have e3 : (((w.alloc (.cells #[.int .i64 s0.1, .int .i64 s0.2.1, .int .i64 s0.2.2] 26)).alloc (.cells #[.slice none 0 0, .int .i64 0] 43)).alloc (.map #[] 0)).heap.size = N + 3 := by simp [hN]
    have e4 : ((((w.alloc (.cells #[.int .i64 s0.1, .int .i64 s0.2.1, .int .i64 s0.2.2] 26)).alloc (.cells #[.slice none 0 0, .int .i64 0] 43)).alloc (.map #[] 0)).alloc (.cells #[.slice none 0 0, .int .i64 0] 43)).heap.size = N + 4 := by simp [hN]
    rw [e1] at x1
    rw [e2] at x2
    rw [e3] at x3
    rw [e4] at x4
    have y1 := blk_alloc_old (blk_alloc_old (blk_alloc_old x1 (.map #[] 0)) (.cells #[.slice none 0 0, .int .i64 0] 43)) (.cells #[.int .i64 s0.1, .int .i64 s0.2.1, .int .i64 s0.2.2] 26)
    have y2 := blk_alloc_old (blk_alloc_old x2 (.cells #[.slice none 0 0, .int .i64 0] 43)) (.cells #[.int .i64 s0.1, .int .i64 s0.2.1, .int .i64 s0.2.2] 26)
    have y3 := blk_alloc_old x3 (.cells #[.int .i64 s0.1, .int .i64 s0.2.1, .int .i64 s0.2.2] 26)
    rw [← hW0] at y1 y2 y3 x4
    have hs := lt_of_blk x4
    exact ⟨hb, ⟨by omega, hs⟩, y1, x4, ⟨[], ⟨#[], 0, y2, rfl⟩, List.Pairwise.nil, by simp [lookK]⟩, ⟨.slice none 0 0, y3, ⟨rfl, .inl ⟨rfl, rfl⟩⟩, by simp [Value.ownBlock]⟩⟩
  rw [← hW0]
  have HA := Sealed.mk hA; clear hA
  have HW0 := Sealed.mk (And.intro hW0 hN); clear hW0 hN
  go_loopg [7] bound (fun j pv W => ∃ (L : List St) (bc : Nat), j = bound - L.length ∧ L.length ≤ bound ∧ pv = .pointer (some ⟨bc, 0, none⟩) ∧ WayTo f s0 L ∧ AL0 w W N L (itr f s0 L.length) bc)
  case atStart => exact ⟨[], N + 4, rfl, Nat.zero_le _, rfl, WayTo.nil f s0, HA.out⟩
  case round =>
    obtain ⟨L, bc, rfl, hL, rfl, hway, hA⟩ := hrel
    have hiok : OkSt m (itr f s0 L.length) := itr_ok HF.out.1 HF.out.2.1 _
    have hmemok : ∀ s ∈ L, OkSt m s := fun s hs => by
      obtain ⟨i, _, rfl⟩ := hway.mem hs
      exact itr_ok HF.out.1 HF.out.2.1 _
    have hnext : f (itr f s0 L.length) = itr f s0 (L.length + 1) := rfl
    obtain ⟨cur, hcur⟩ : ∃ cur, cur = itr f s0 L.length := ⟨_, rfl⟩
    rw [← hcur] at hA hiok hnext
    obtain ⟨c1, c2, c3⟩ := cur
    obtain ⟨n, hn⟩ : ∃ n, n = L.length := ⟨_, rfl⟩
    rw [← hn] at hL hnext hcur
    obtain ⟨l, hmi, hka, hlk⟩ := hA.map
    obtain ⟨av, hwb, hown, hne⟩ := hA.way
    obtain ⟨aa, ac, rfl⟩ := own_slice hown
    rw [← hn] at hown hwb hne
    have lk := run_lookup_ok kk_st Try.underlying59 zero_int (r := N + 1 + 1) hmi (c1, c2, c3)
    have k0 : wr.cell? ⟨bc, 0, none⟩ = some (.int .i64 c1) := by rw [cell_of_blk hA.cur]; rfl
    have k1 : wr.cell? ⟨bc, 1, none⟩ = some (.int .i64 c2) := by rw [cell_of_blk hA.cur]; rfl
    have k2 : wr.cell? ⟨bc, 2, none⟩ = some (.int .i64 c3) := by rw [cell_of_blk hA.cur]; rfl
    have q0 : wr.cell? ⟨N + 1 + 1 + 1, 0, none⟩ = some (.slice aa n ac) := (cell_of_blk hwb 0).trans rfl
    have q1 : wr.cell? ⟨N + 1 + 1 + 1, 1, none⟩ = some (.int .i64 0) := (cell_of_blk hwb 1).trans rfl
    have q2 : wr.frozen? ⟨N + 1 + 1 + 1, 1, none⟩ = false := frozen_of_blk hwb 1
    have q3 : wr.frozen? ⟨N + 1 + 1 + 1, 0, none⟩ = false := frozen_of_blk hwb 0
    have r0 : wr.cell? ⟨N + 1, 0, none⟩ = some (.slice none 0 0) := by rw [cell_of_blk hA.res]; rfl
    have r1 : wr.cell? ⟨N + 1, 1, none⟩ = some (.int .i64 0) := by rw [cell_of_blk hA.res]; rfl
    have r2 : wr.frozen? ⟨N + 1, 0, none⟩ = false := frozen_of_blk hA.res 0
    have r3 : wr.frozen? ⟨N + 1, 1, none⟩ = false := frozen_of_blk hA.res 1
    have hlks := hlk (c1, c2, c3)
    unfold stv at lk
    have HK := Sealed.mk (And.intro hmi (And.intro hka hlk)); clear hmi hka hlk
    have HO := Sealed.mk (And.intro hown (And.intro hwb hne)); clear hown hwb hne
    have HY := Sealed.mk (And.intro hway (And.intro hA (And.intro hiok (And.intro hmemok (And.intro hcur hn))))); clear hway hA hiok hmemok
    have HN := Sealed.mk hnext; clear hnext
    clear hcur hn
    by_cases hmem : (c1, c2, c3) ∈ L
    · rw [if_pos hmem] at hlks
      rw [hlks] at lk
      simp only [Option.getD_some, Option.isSome_some] at lk
      have HM := Sealed.mk hmem; clear hmem hlks
      clear q3
      obtain ⟨ld, hld⟩ : ∃ ld, ld = L.idxOf (c1, c2, c3) := ⟨_, rfl⟩
      rw [← hld] at lk
      have HL := Sealed.mk hld; clear hld
      obtain ⟨W9, hW9⟩ : ∃ W9, W9 = ((wr.setCell ⟨N + 1 + 1 + 1, 1, none⟩ (.int .i64 (ld : Int))).setCell ⟨N + 1, 0, none⟩ (.slice aa n ac)).setCell ⟨N + 1, 1, none⟩ (.int .i64 (ld : Int)) := ⟨_, rfl⟩
      have z1 : W9.heap[N + 1]? = some (.cells #[.slice aa n ac, .int .i64 (ld : Int)] 43 (0, 0)) := by
        have e0 : (wr.setCell ⟨N + 1 + 1 + 1, 1, none⟩ (.int .i64 (ld : Int))).heap[N + 1]? = some (.cells #[.slice none 0 0, .int .i64 0] 43 (0, 0)) := by
          have hA := HY.out.2.1
          have hx : Ext (fun q => q = N + 1 + 1 + 1) wr (wr.setCell ⟨N + 1 + 1 + 1, 1, none⟩ (.int .i64 (ld : Int))) := (Ext.refl (fun q => q = N + 1 + 1 + 1) wr).setCell (p := ⟨N + 1 + 1 + 1, 1, none⟩) (.inl rfl) _
          exact hx.get hA.res (by omega)
        rw [hW9, blk_setCell (blk_setCell e0 0 _) 1 _]
        rfl
      have z2 : W9.cell? ⟨N + 1, 0, none⟩ = some (.slice aa n ac) := (cell_of_blk z1 0).trans rfl
      have z3 : W9.cell? ⟨N + 1, 1, none⟩ = some (.int .i64 (ld : Int)) := (cell_of_blk z1 1).trans rfl
      go_wp2_with fail
      rw [← hW9]
      refine bodyPost_ret (v := .agg #[.slice aa n ac, .int .i64 (ld : Int)]) (by simp [results, Try.results10, go_sem, z2, z3]) rfl ?_
      obtain ⟨hway, hA, hiok, hmemok, hcur, hn⟩ := HY.out
      have hm' := HM.out
      rw [hcur, hn] at hm'
      have hx9 : Ext (fun q => q = N + 1 + 1 + 1 ∨ q = N + 1) wr W9 := by
        rw [hW9]
        exact (((Ext.refl (fun q => q = N + 1 + 1 + 1 ∨ q = N + 1) wr).setCell (p := ⟨N + 1 + 1 + 1, 1, none⟩) (.inl (.inl rfl)) _).setCell (p := ⟨N + 1, 0, none⟩) (.inl (.inr rfl)) _).setCell (p := ⟨N + 1, 1, none⟩) (.inl (.inr rfl)) _
      have ho9 := own_ext HO.out.1 hx9 fun k hk e => by have := (HO.out.1.lt k hk).1; omega
      have hN := HW0.out.2
      refine ⟨L, ld, aa, ac, by rw [hn], ?_, ?_, ?_, hmemok⟩
      · rw [HL.out, hcur, hn]
        exact hway.done hm'
      · rw [hn] at ho9
        exact own_lower ho9 (by omega)
      · have hb := hA.below
        rw [hN] at hb
        exact ⟨hx9.os.trans hb.os, hx9.tape.trans hb.tape, hx9.output.trans hb.output, Nat.le_trans hb.size hx9.size, fun k hk => (hx9.block k (by have := hb.size; omega) (by omega)).trans (hb.block k hk)⟩
    · rw [if_neg hmem] at hlks
      rw [hlks] at lk
      simp only [Option.getD_none, Option.isSome_none] at lk
      have HM := Sealed.mk hmem; clear hmem hlks
      clear q2 r0 r1 r2 r3 q1
      have hfc := HF.out.2.2 (c1, c2, c3) HY.out.2.2.1
      obtain ⟨d, hd⟩ : ∃ d, d = f (c1, c2, c3) := ⟨_, rfl⟩
      rw [← hd] at hfc
      obtain ⟨d1, d2, d3⟩ := d
      simp only [stv] at hfc
      have HFC := Sealed.mk hfc; clear hfc
      have HD := Sealed.mk hd; clear hd
      have hbc := HY.out.2.1.size
      have hnb : n ≤ 216000 := by have := HB.out.2; have := HB.out.1; omega
      go_wp2_with (refine wp_update kk_st Try.underlying59 (.tmp 25) (.tmp 26) (.tmp 29) rfl rfl HK.out.2.1 (l := l) (r := N + 1 + 1) HK.out.1 (c1, c2, c3) (n : Int) rfl rfl rfl ?_)
      intro w5 hm5 hg5
      have hx5 : Ext (fun q => q = N + 1 + 1) wr w5 := (Ext.refl _ wr).grown hg5 fun k hk => .inl (Option.some.inj hk).symm
      have k0' : w5.cell? ⟨bc, 0, none⟩ = some (.int .i64 c1) := (cell_same (hx5.block bc hbc.2 (by omega)) 0).trans k0
      have k1' : w5.cell? ⟨bc, 1, none⟩ = some (.int .i64 c2) := (cell_same (hx5.block bc hbc.2 (by omega)) 1).trans k1
      have k2' : w5.cell? ⟨bc, 2, none⟩ = some (.int .i64 c3) := (cell_same (hx5.block bc hbc.2 (by omega)) 2).trans k2
      have q0' : w5.cell? ⟨N + 1 + 1 + 1, 0, none⟩ = some (.slice aa n ac) := (cell_same (hx5.block (N + 1 + 1 + 1) (lt_of_cell q0) (by omega)) 0).trans q0
      have own5 := own_ext HO.out.1 hx5 fun k hk e => by have := (HO.out.1.lt k hk).1; omega
      have hsz5 : N + 4 ≤ w5.heap.size := by have := hx5.size; omega
      have HX5 := Sealed.mk (And.intro hx5 (And.intro hm5 own5)); clear hx5 hm5 hg5
      clear k0 k1 k2 q0 q3 lk
      go_wp2_with (at_builtin; go_must (refine ap_litp (m := 1) el_state (.tmp 31) (.tmp 33) rfl rfl rfl own5 rfl (by simp) rfl (by decide) ?h1 ?h2 ?h3 ?h4))
      case h1 => simp [Value.oneCell']
      case h2 => omega
      case h3 => exact hsz5
      case h4 =>
        intro gb gc w6 hown6 hgrow6 hnew6
        have hx56 : Ext (fun q => (Value.slice aa n ac).ownBlock = some q) w5 w6 := ⟨hgrow6.os, hgrow6.tape, hgrow6.output, hgrow6.size, fun q hq hn => hgrow6.block q hq fun e => hn e.symm⟩
        have hav := fun q hq => (own5.lt q hq).1
        have hkeep : ∀ q, q < wr.heap.size → q ≠ N + 1 + 1 → (Value.slice aa n ac).ownBlock ≠ some q → w6.heap[q]? = wr.heap[q]? := fun q h1 h2 h3 => (hx56.block q (Nat.lt_of_lt_of_le h1 HX5.out.1.size) h3).trans (HX5.out.1.block q h1 h2)
        have zb : w6.heap[N + 1 + 1 + 1]? = some (.cells #[.slice aa n ac, .int .i64 0] 43 (0, 0)) := (hkeep _ (lt_of_blk HO.out.2.1) (by omega) (fun e => by have := hav _ e; omega)).trans HO.out.2.1
        have q6 : w6.cell? ⟨N + 1 + 1 + 1, 0, none⟩ = some (.slice aa n ac) := (cell_of_blk zb 0).trans rfl
        have q6f : w6.frozen? ⟨N + 1 + 1 + 1, 0, none⟩ = false := frozen_of_blk zb 0
        have zc : w6.heap[bc]? = some (.cells #[.int .i64 c1, .int .i64 c2, .int .i64 c3] 26 (0, 0)) := (hkeep bc hbc.2 (by omega) HO.out.2.2).trans HY.out.2.1.cur
        have b0 : w6.cell? ⟨bc, 0, none⟩ = some (.int .i64 c1) := (cell_of_blk zc 0).trans rfl
        have b1 : w6.cell? ⟨bc, 1, none⟩ = some (.int .i64 c2) := (cell_of_blk zc 1).trans rfl
        have b2 : w6.cell? ⟨bc, 2, none⟩ = some (.int .i64 c3) := (cell_of_blk zc 2).trans rfl
        have hs6 : wr.heap.size ≤ w6.heap.size := Nat.le_trans HX5.out.1.size hx56.size
        have hb6 : Below N w w6 := by
          have hb := HY.out.2.1.below
          have hsz := hb.size
          have hNw := HW0.out.2
          exact ⟨hx56.os.trans (HX5.out.1.os.trans hb.os), hx56.tape.trans (HX5.out.1.tape.trans hb.tape), hx56.output.trans (HX5.out.1.output.trans hb.output), by omega, fun q hq => (hkeep q (by omega) (by omega) (fun e => by have := hav _ e; omega)).trans (hb.block q hq)⟩
        have hb8 : ∀ v o, Below w.heap.size w ((w6.setCell ⟨N + 1 + 1 + 1, 0, none⟩ v).alloc o) := fun v o => by
          have hNw := HW0.out.2
          rw [← hNw]
          exact below_st (hb6.setCell (by show N ≤ N + 1 + 1 + 1; omega) v) o (by omega)
        have HB8 := Sealed.mk hb8; clear hb8
        have H6 := Sealed.mk (And.intro hx56 (And.intro hkeep (And.intro zb (And.intro zc (And.intro hb6 (And.intro hown6 hnew6)))))); clear hx56 hkeep zb zc hb6 hown6 hnew6 hgrow6 hav own5
        clear k0' k1' k2' q0'
        have hz9 : ∀ w9, Below ((w6.setCell ⟨N + 1 + 1 + 1, 0, none⟩ (.slice (some ⟨gb, 0, none⟩) (n + 1) gc)).alloc (.cells #[.int .i64 c1, .int .i64 c2, .int .i64 c3] 26)).heap.size ((w6.setCell ⟨N + 1 + 1 + 1, 0, none⟩ (.slice (some ⟨gb, 0, none⟩) (n + 1) gc)).alloc (.cells #[.int .i64 c1, .int .i64 c2, .int .i64 c3] 26)) w9 → w9.heap[w6.heap.size]? = some (.cells #[.int .i64 c1, .int .i64 c2, .int .i64 c3] 26 (0, 0)) := fun w9 hb9 => by
          have e : (w6.setCell ⟨N + 1 + 1 + 1, 0, none⟩ (.slice (some ⟨gb, 0, none⟩) (n + 1) gc)).heap.size = w6.heap.size := by simp [World.setCell]
          have h1 := blk_alloc (w6.setCell ⟨N + 1 + 1 + 1, 0, none⟩ (.slice (some ⟨gb, 0, none⟩) (n + 1) gc)) (.cells #[.int .i64 c1, .int .i64 c2, .int .i64 c3] 26)
          rw [e] at h1
          exact (hb9.block _ (lt_of_blk h1)).trans h1
        have HZ9 := Sealed.mk hz9; clear hz9
        go_wp2_with (go_at_fn g; go_must (refine (HFC.out _ (HB8.out _ _)).mono ?_; rintro e9 w9 ⟨rfl, hb9⟩; have z9 := HZ9.out w9 hb9; have y0 : w9.cell? ⟨w6.heap.size, 0, none⟩ = some (.int .i64 c1) := (cell_of_blk z9 0).trans rfl; have y1 : w9.cell? ⟨w6.heap.size, 1, none⟩ = some (.int .i64 c2) := (cell_of_blk z9 1).trans rfl; have y2 : w9.cell? ⟨w6.heap.size, 2, none⟩ = some (.int .i64 c3) := (cell_of_blk z9 2).trans rfl; have f0 : w9.frozen? ⟨w6.heap.size, 0, none⟩ = false := frozen_of_blk z9 0; have f1 : w9.frozen? ⟨w6.heap.size, 1, none⟩ = false := frozen_of_blk z9 1; have f2 : w9.frozen? ⟨w6.heap.size, 2, none⟩ = false := frozen_of_blk z9 2; have H9 := Sealed.mk (And.intro z9 hb9); clear z9 hb9))
        have hLn : L.length = n := HY.out.2.2.2.2.2.symm
        have hcn : (c1, c2, c3) = itr f s0 L.length := by rw [hLn]; exact HY.out.2.2.2.2.1
        have hpush := HY.out.1.push (by rw [← hcn]; exact HM.out)
        rw [← hcn] at hpush
        have hfew := few_states (m := m) (L := L ++ [(c1, c2, c3)]) hpush.nodup fun s hs => by
          rcases List.mem_append.1 hs with hs | hs
          · exact HY.out.2.2.2.1 s hs
          · simp at hs; subst hs; exact HY.out.2.2.1
        rw [← HB.out.1] at hfew
        simp only [List.length_append, List.length_cons, List.length_nil] at hfew
        have HPU := Sealed.mk hpush; clear hpush hcn
        go_roundg (bound - (n + 1))
        case measure => omega
        case rel =>
          refine ⟨L ++ [(c1, c2, c3)], w6.heap.size, by simp [hLn], by simp; omega, rfl, HPU.out, ?_⟩
          obtain ⟨hx56, hkeep, zb, zc, hb6, hown6, hnew6⟩ := H6.out
          obtain ⟨z9, hb9⟩ := H9.out
          have hNw := HW0.out.2
          have hA := HY.out.2.1
          obtain ⟨W10, hW10⟩ : ∃ W10, W10 = ((w9.setCell ⟨w6.heap.size, 0, none⟩ (.int .i64 d1)).setCell ⟨w6.heap.size, 1, none⟩ (.int .i64 d2)).setCell ⟨w6.heap.size, 2, none⟩ (.int .i64 d3) := ⟨_, rfl⟩
          rw [← hW10]
          have e67 : Ext (fun q => q = N + 1 + 1 + 1) w6 (w6.setCell ⟨N + 1 + 1 + 1, 0, none⟩ (.slice (some ⟨gb, 0, none⟩) (n + 1) gc)) := (Ext.refl (fun q => q = N + 1 + 1 + 1) w6).setCell (p := ⟨N + 1 + 1 + 1, 0, none⟩) (.inl rfl) _
          have e68 := e67.alloc (.cells #[.int .i64 c1, .int .i64 c2, .int .i64 c3] 26)
          have e69 : Ext (fun q => q = N + 1 + 1 + 1) w6 w9 := e68.trans (Ext.of_below (M := noB) hb9) fun _ h => h.elim
          have e910 : Ext (fun q => q = w6.heap.size) w9 W10 := by
            rw [hW10]
            exact (((Ext.refl (fun q => q = w6.heap.size) w9).setCell (p := ⟨w6.heap.size, 0, none⟩) (.inl rfl) _).setCell (p := ⟨w6.heap.size, 1, none⟩) (.inl rfl) _).setCell (p := ⟨w6.heap.size, 2, none⟩) (.inl rfl) _
          have e610 : Ext (fun q => q = N + 1 + 1 + 1) w6 W10 := e69.trans e910 fun q hq => .inr (by omega)
          have zB : W10.heap[w6.heap.size]? = some (.cells #[.int .i64 d1, .int .i64 d2, .int .i64 d3] 26 (0, 0)) := by
            rw [hW10, blk_setCell (blk_setCell (blk_setCell z9 0 _) 1 _) 2 _]
            rfl
          have hgb := hown6.lt gb rfl
          refine ⟨?_, ⟨by omega, lt_of_blk zB⟩, ?_, ?_, ?_, ?_⟩
          · exact ⟨e610.os.trans hb6.os, e610.tape.trans hb6.tape, e610.output.trans hb6.output, Nat.le_trans hb6.size e610.size, fun k hk => (e610.block k (by have := hb6.size; omega) (by omega)).trans (hb6.block k hk)⟩
          · exact (e610.block _ (by omega) (by omega)).trans ((hkeep (N + 1) (by omega) (by omega) (fun e => by have := (HX5.out.2.2.lt _ e).1; omega)).trans hA.res)
          · have e : itr f s0 (L ++ [(c1, c2, c3)]).length = (d1, d2, d3) := by
              rw [HD.out, HN.out]; simp [hLn]
            rw [e]
            exact zB
          · refine ⟨putK l (c1, c2, c3) (n : Int), ?_, HK.out.2.1.put _ _, fun s => ?_⟩
            · refine HX5.out.2.1.same ?_
              exact (e610.block _ (by omega) (by omega)).trans (hx56.block _ (by omega) (fun e => by have := (HX5.out.2.2.lt _ e).1; omega))
            · rw [lookK_putK]
              by_cases hs : s = (c1, c2, c3)
              · subst hs
                have := HM.out
                simp [List.idxOf_append, this, hLn]
              · rw [if_neg hs, HK.out.2.2 s]
                by_cases hsl : s ∈ L
                · simp [hsl, List.idxOf_append]
                · simp [hsl, hs]
          · refine ⟨.slice (some ⟨gb, 0, none⟩) (n + 1) gc, ?_, ?_, fun e => by have e' := Option.some.inj e; have e2 : gb = w6.heap.size := e'; omega⟩
            · refine (e910.block _ (by have := e69.size; omega) (by omega)).trans ?_
              have z7 := blk_setCell zb 0 (.slice (some ⟨gb, 0, none⟩) (n + 1) gc)
              have z8 := blk_alloc_old z7 (.cells #[.int .i64 c1, .int .i64 c2, .int .i64 c3] 26)
              exact ((hb9.block _ (lt_of_blk z8)).trans z8).trans rfl
            · have e : (L ++ [(c1, c2, c3)]).length = n + 1 := by simp [hLn]
              rw [e, scells_append]
              exact own_ext hown6 e610 fun k hk e => by have e' : gb = k := Option.some.inj hk; omega

end Go.Proofs.Ythmagdibjbadaaa
