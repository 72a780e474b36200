/-
  sandreckonerref01: Sums
  sandreckonerref01: Products
  sandreckonerlaw01.spread
  sandreckonerlaw01.is
-/
import Derived.Test.YtgchfbfgjanaiaaLwBinaryRx01
import Derived.Test.YtgchfbfgjanaiaaJ07
import Derived.StillTailTactics
import Derived.Deep.LoopGhost
import Derived.Deep.DeepCutAuto
import Derived.Deep.CutBlock
import Derived.Test.YtgchfbfgjanaiaaK01
import Derived.Test.YtgchfbfgjanaiaaJ31
set_option linter.unusedSimpArgs false
set_option linter.unusedVariables false
namespace Go.Proofs.Ytgchfbfgjanaiaa
open Go.RowKit Sr

set_option maxRecDepth 100000 in
set_option maxHeartbeats 4000000 in
theorem rSums_any {w : World} {va vb : Value} {la lb : List Int} {by_ C : Int} (hC : 0 ≤ C ∧ C ≤ 100000000) (ha : IntsAt w va la) (hb : IntsAt w vb lb) (hy : by_ = 1 ∨ by_ = -1) (hBa : ∀ z ∈ la, -C ≤ z ∧ z ≤ C) (hBb : ∀ z ∈ lb, -C ≤ z ∧ z ≤ C) :
    Calls Try.prog 35 #[va, vb, .int .i64 by_] w fun e w' => ∃ a c r, e = .returned (.slice a r.length c) ∧ r.length = max la.length lb.length ∧ vl r = vl la + by_ * vl lb ∧ (∀ z ∈ r, -(2 * C) ≤ z ∧ z ≤ 2 * C) ∧
      w'.ownsRow w.heap.size 3 1 (.slice a r.length c) r.length (zrow r) ∧ Below w.heap.size w w' := by
  obtain ⟨aa, ca, rfl, hca⟩ := ha.len'
  obtain ⟨ab, cb, rfl, hcb⟩ := hb.len'
  obtain ⟨na, hna⟩ : ∃ n, n = la.length := ⟨_, rfl⟩
  obtain ⟨nb, hnb⟩ : ∃ n, n = lb.length := ⟨_, rfl⟩
  have hna1 : na ≤ 1000000 := by rw [hna]; exact ha.len
  have hnb1 : nb ≤ 1000000 := by rw [hnb]; exact hb.len
  rw [← hna] at ha hca ⊢
  rw [← hnb] at hb hcb ⊢
  obtain ⟨M, hM⟩ : ∃ M, M = max na nb := ⟨_, rfl⟩
  have hM1 : M ≤ 1000000 := by omega
  have hMa : na ≤ M := by omega
  have hMb : nb ≤ M := by omega
  have hmax : max (na : Int) (nb : Int) = (M : Int) := by omega
  have hmk : (Instr.makeSlice 57 (.int .i64 (M : Int)) (.int .i64 (M : Int))).run Try.prog w = .ok (.slice (some ⟨w.heap.size, 0, none⟩) M M) (w.alloc (.cells (madeCells #[.int .i64 0] M) 3)) := by
    have := run_mk el_int M (by omega) w
    simpa [Value.cells] using this
  have H := Sealed.mk (And.intro ha (And.intro hb (And.intro hBa (And.intro hBb (And.intro hna (And.intro hnb (And.intro hM hy)))))))
  clear ha hb hBa hBb hna hnb hM hy
  go_enter Try.func35, Try.ntmps35
  go_upto_region 2 with fail
  obtain ⟨W0, hW0⟩ : ∃ W0, W0 = w.alloc (.cells (madeCells #[.int .i64 0] M) 3) := ⟨_, rfl⟩
  have hown0 : W0.ownsRow w.heap.size 3 1 (.slice (some ⟨w.heap.size, 0, none⟩) M M) M (zrow (List.replicate M 0)) := by
    have := World.ownsRow_lit (base := w.heap.size) (e := 3) (size := 1) w (madeCells #[.int .i64 0] M) M (Nat.le_refl _) (by unfold maxLen; omega) (by simp [size_madeCells])
    rw [hW0]
    rw [toList_madeCells_one] at this
    simpa [zrow] using this
  have hb0 : Below w.heap.size w W0 := by rw [hW0]; exact (Below.refl _ _).alloc (Nat.le_refl _) _
  have R0 : Sealed (∃ r : List Int, r.length = M ∧ vl r = vl (la.take 0) ∧ (∀ z ∈ r, -C ≤ z ∧ z ≤ C) ∧ (∀ j z, 0 ≤ j → r[j]? = some z → z = 0) ∧ W0.ownsRow w.heap.size 3 1 (.slice (some ⟨w.heap.size, 0, none⟩) M M) M (zrow r) ∧ Below w.heap.size w W0) :=
    ⟨List.replicate M 0, by simp, by rw [vl_zeros]; rfl, fun z hz => by rw [List.eq_of_mem_replicate hz]; omega, fun j z _ h => List.eq_of_mem_replicate (List.mem_of_getElem? h), hown0, hb0⟩
  rw [← hW0]
  clear hW0 hmk hown0 hb0
  go_wp2_with fail
  go_loopg [8] na (fun jj iv W => ∃ k : Nat, jj = na - k ∧ k ≤ na ∧ iv = .int .i64 (k : Int) ∧ Sealed (∃ r : List Int, r.length = M ∧ vl r = vl (la.take k) ∧ (∀ z ∈ r, -C ≤ z ∧ z ≤ C) ∧ (∀ j z, k ≤ j → r[j]? = some z → z = 0) ∧ W.ownsRow w.heap.size 3 1 (.slice (some ⟨w.heap.size, 0, none⟩) M M) M (zrow r) ∧ Below w.heap.size w W))
  case atStart => exact ⟨0, rfl, Nat.zero_le _, rfl, R0⟩
  case round =>
    obtain ⟨k, rfl, hk, rfl, HK⟩ := hrel
    by_cases hkn : k < na
    · obtain ⟨z, hz⟩ : ∃ z, la[k]? = some z := ⟨_, List.getElem?_eq_getElem (by have := H.out.2.2.2.2.1; omega)⟩
      obtain ⟨r, h1, h2, h3, h4, h5, h6⟩ := HK.out
      obtain ⟨b, o, rfl, c1⟩ := (H.out.1.below h6).cell hz
      have f1 := own_free h5 (b := w.heap.size) rfl k
      have c2 : wr.cell? ⟨w.heap.size, k, none⟩ = some (.int .i64 0) := by
        obtain ⟨y, hy⟩ : ∃ y, r[k]? = some y := ⟨_, List.getElem?_eq_getElem (by omega)⟩
        have hy0 := h4 k y (Nat.le_refl _) hy
        subst hy0
        exact own_cell h5 (b := w.heap.size) rfl (zrow_get hy)
      have hkn' : (k : Int) < (na : Int) := by omega
      have hkM : (k : Int) < (M : Int) := by omega
      have hkw : wrap64 ((k : Int) + 1) = (k : Int) + 1 := by unfold wrap64; omega
      have HR := Sealed.mk (And.intro h1 (And.intro h2 (And.intro h3 (And.intro h4 (And.intro h5 (And.intro h6 hz))))))
      clear h1 h2 h3 h4 h5 h6 hz
      go_wp2_with fail
      go_roundg (na - (k + 1))
      case measure => omega
      case rel =>
        obtain ⟨h1, h2, h3, h4, h5, h6, hz⟩ := HR.out
        obtain ⟨y, hy⟩ : ∃ y, r[k]? = some y := ⟨_, List.getElem?_eq_getElem (by omega)⟩
        have hy0 := h4 k y (Nat.le_refl _) hy
        refine ⟨k + 1, rfl, by omega, by push_cast; rfl, ⟨r.set k z, by simpa using h1, ?_, fun q hq => ?_, fun j q hj hq => ?_, ?_, h6.setCell (Nat.le_refl _) _⟩⟩
        · rw [vl_set r k z y hy, vl_take hz, h2, hy0, Int.sub_zero]
        · rcases List.mem_or_eq_of_mem_set hq with hq | rfl
          · exact h3 q hq
          · exact H.out.2.2.1 q (List.mem_of_getElem? hz)
        · rw [List.getElem?_set_ne (show k ≠ j by omega)] at hq
          exact h4 j q (by omega) hq
        · rw [zrow_set]
          exact own_set h5 rfl (by omega) _
    · obtain rfl : k = na := by omega
      have R1 : Sealed (∃ r : List Int, r.length = M ∧ vl r = vl la + by_ * vl (lb.take 0) ∧ (∀ z ∈ r, -(2 * C) ≤ z ∧ z ≤ 2 * C) ∧ (∀ j z, 0 ≤ j → r[j]? = some z → -C ≤ z ∧ z ≤ C) ∧ wr.ownsRow w.heap.size 3 1 (.slice (some ⟨w.heap.size, 0, none⟩) M M) M (zrow r) ∧ Below w.heap.size w wr) := by
        obtain ⟨r, h1, h2, h3, h4, h5, h6⟩ := HK.out
        refine ⟨⟨r, h1, ?_, fun z hz => by have := h3 z hz; omega, fun j z _ hz => h3 z (List.mem_of_getElem? hz), h5, h6⟩⟩
        rw [h2, H.out.2.2.2.2.1, List.take_length, List.take_zero]
        show vl la = vl la + by_ * 0
        rw [Int.mul_zero, Int.add_zero]
      clear HK
      go_wp2_with fail
      go_loopg [9] nb (fun jj iv W => ∃ k : Nat, jj = nb - k ∧ k ≤ nb ∧ iv = .int .i64 (k : Int) ∧ Sealed (∃ r : List Int, r.length = M ∧ vl r = vl la + by_ * vl (lb.take k) ∧ (∀ z ∈ r, -(2 * C) ≤ z ∧ z ≤ 2 * C) ∧ (∀ j z, k ≤ j → r[j]? = some z → -C ≤ z ∧ z ≤ C) ∧ W.ownsRow w.heap.size 3 1 (.slice (some ⟨w.heap.size, 0, none⟩) M M) M (zrow r) ∧ Below w.heap.size w W))
      case atStart => exact ⟨0, rfl, Nat.zero_le _, rfl, R1⟩
      case round =>
        obtain ⟨k, rfl, hk, rfl, HK⟩ := hrel
        by_cases hkn : k < nb
        · obtain ⟨z, hz⟩ : ∃ z, lb[k]? = some z := ⟨_, List.getElem?_eq_getElem (by have := H.out.2.2.2.2.2.1; omega)⟩
          obtain ⟨r, h1, h2, h3, h4, h5, h6⟩ := HK.out
          obtain ⟨b, o, rfl, c1⟩ := (H.out.2.1.below h6).cell hz
          obtain ⟨y, hy⟩ : ∃ y, r[k]? = some y := ⟨_, List.getElem?_eq_getElem (by omega)⟩
          have c2 := own_cell h5 (b := w.heap.size) rfl (zrow_get hy)
          have f1 := own_free h5 (b := w.heap.size) rfl k
          have hkn' : (k : Int) < (nb : Int) := by omega
          have hkM : (k : Int) < (M : Int) := by omega
          have hkw : wrap64 ((k : Int) + 1) = (k : Int) + 1 := by unfold wrap64; omega
          have hzB := H.out.2.2.2.1 z (List.mem_of_getElem? hz)
          have hyB := h4 k y (Nat.le_refl _) hy
          have hbz : by_ * z = z ∨ by_ * z = -z := by
            rcases H.out.2.2.2.2.2.2.2 with e | e
            · rw [e]; omega
            · rw [e]; omega
          obtain ⟨d, hd⟩ : ∃ d, d = by_ * z := ⟨_, rfl⟩
          have hdB : -C ≤ d ∧ d ≤ C := by omega
          have g1 : wrap64 (by_ * z) = d := by rw [← hd]; unfold wrap64; omega
          have g2 : wrap64 (y + d) = y + d := by unfold wrap64; omega
          have d1 : wr.drew.cell? ⟨b, o + k, none⟩ = some (.int .i64 z) := c1
          have d2 : wr.drew.cell? ⟨w.heap.size, k, none⟩ = some (.int .i64 y) := c2
          have d3 : wr.drew.frozen? ⟨w.heap.size, k, none⟩ = false := f1
          have HR := Sealed.mk (And.intro h1 (And.intro h2 (And.intro h3 (And.intro h4 (And.intro h5 (And.intro h6 (And.intro hz (And.intro hy hd))))))))
          clear h1 h2 h3 h4 h5 h6 hz hy hd hbz hzB
          go_upto_region 9 with fail
          refine wp_region_still_tail 14 (by kernel_rfl) (by kernel_rfl) ?_
          simp only [List.take_succ_cons, List.take_zero, List.drop_succ_cons, List.drop_zero]
          (repeat still_step)
          refine wpStill_nil ?_
          change wpList _ _ _ _ _ wr.drew
          go_wp2_with fail
          go_roundg (nb - (k + 1))
          case measure => omega
          case rel =>
            obtain ⟨h1, h2, h3, h4, h5, h6, hz, hy, hd⟩ := HR.out
            have hb : Below w.heap.size w wr.drew := h6.trans ⟨rfl, rfl, rfl, Nat.le_refl _, fun _ _ => rfl⟩
            refine ⟨k + 1, rfl, by omega, by push_cast; rfl, ⟨r.set k (y + d), by simpa using h1, ?_, fun q hq => ?_, fun j q hj hq => ?_, ?_, hb.setCell (Nat.le_refl _) _⟩⟩
            · rw [vl_set r k _ y hy, vl_take hz, h2, hd, Int.mul_add, show y + by_ * z - y = by_ * z by omega, Int.mul_left_comm]
              omega
            · rcases List.mem_or_eq_of_mem_set hq with hq | rfl
              · exact h3 q hq
              · omega
            · have hjk : k + 1 ≤ j := hj
              rw [List.getElem?_set_ne (show k ≠ j by omega)] at hq
              exact h4 j q (by omega) hq
            · rw [zrow_set]
              (try rw [g2])
              exact own_set (w := wr.drew) (j := k) h5 rfl (by omega) _
        · obtain rfl : k = nb := by omega
          obtain ⟨r, h1, h2, h3, h4, h5, h6⟩ := HK.out
          rw [H.out.2.2.2.2.2.1, List.take_length] at h2
          have HR := Sealed.mk (And.intro h1 (And.intro h2 (And.intro h3 (And.intro h5 h6))))
          clear h1 h2 h3 h4 h5 h6 HK
          go_wp2_with fail
          go_ret
          obtain ⟨h1, h2, h3, h5, h6⟩ := HR.out
          refine ⟨_, M, r, by rw [h1]; rfl, by rw [h1, H.out.2.2.2.2.2.2.1], h2, h3, ?_, h6⟩
          rw [h1]; exact h5

end Go.Proofs.Ytgchfbfgjanaiaa

namespace Go.Proofs.Ytgchfbfgjanaiaa
open Go.RowKit Sr

/-- the products on their way: i rows are done, and k of the next -/
def PrR (w W : World) (M : Nat) (la lb : List Int) (i k : Nat) (a : Int) : Prop :=
  ∃ r : List Int, r.length = M ∧ vl r = vl (la.take i) * vl lb + 2 ^ i * (a * vl (lb.take k)) ∧ (∀ (j : Nat) (z : Int), r[j]? = some z → -(100 * (i : Int) + 100) ≤ z ∧ z ≤ 100 * (i : Int) + 100) ∧ (∀ (j : Nat) (z : Int), i + k ≤ j → r[j]? = some z → -(100 * (i : Int)) ≤ z ∧ z ≤ 100 * (i : Int)) ∧
    W.ownsRow w.heap.size 3 1 (.slice (some ⟨w.heap.size, 0, none⟩) M M) M (zrow r) ∧ Below w.heap.size w W

theorem ten_mul {a z : Int} (ha : -10 ≤ a ∧ a ≤ 10) (hz : -10 ≤ z ∧ z ≤ 10) : -100 ≤ a * z ∧ a * z ≤ 100 := by
  have h1 : 0 ≤ (10 - a) * (10 - z) := Int.mul_nonneg (by omega) (by omega)
  have h2 : 0 ≤ (10 + a) * (10 + z) := Int.mul_nonneg (by omega) (by omega)
  have h3 : 0 ≤ (10 - a) * (10 + z) := Int.mul_nonneg (by omega) (by omega)
  have h4 : 0 ≤ (10 + a) * (10 - z) := Int.mul_nonneg (by omega) (by omega)
  simp only [Int.sub_mul, Int.mul_sub, Int.add_mul, Int.mul_add] at h1 h2 h3 h4
  omega

theorem i64_in {z : Int} (h1 : -1000000000000 ≤ z) (h2 : z ≤ 1000000000000) : IntKind.i64.wrap z = z := by rw [IntKind.wrap_i64]; omega
theorem w64_in {z : Int} (h1 : -1000000000000 ≤ z) (h2 : z ≤ 1000000000000) : wrap64 z = z := by unfold wrap64; omega

set_option maxRecDepth 100000 in
set_option maxHeartbeats 4000000 in
theorem rProducts_any {w : World} {va vb : Value} {la lb : List Int} (ha : IntsAt w va la) (hb : IntsAt w vb lb) (hBa : ∀ z ∈ la, -10 ≤ z ∧ z ≤ 10) (hBb : ∀ z ∈ lb, -10 ≤ z ∧ z ≤ 10) (hla : la.length ≤ 1000) (hlb : lb.length ≤ 1000) :
    Calls Try.prog 36 #[va, vb] w fun e w' => ∃ a c r, e = .returned (.slice a r.length c) ∧ r.length = la.length + lb.length ∧ vl r = vl la * vl lb ∧ (∀ z ∈ r, -200000 ≤ z ∧ z ≤ 200000) ∧
      w'.ownsRow w.heap.size 3 1 (.slice a r.length c) r.length (zrow r) ∧ Below w.heap.size w w' := by
  obtain ⟨aa, ca, rfl, hca⟩ := ha.len'
  obtain ⟨ab, cb, rfl, hcb⟩ := hb.len'
  obtain ⟨na, hna⟩ : ∃ n, n = la.length := ⟨_, rfl⟩
  obtain ⟨nb, hnb⟩ : ∃ n, n = lb.length := ⟨_, rfl⟩
  rw [← hna] at ha hca hla ⊢
  rw [← hnb] at hb hcb hlb ⊢
  obtain ⟨M, hM⟩ : ∃ M, M = na + nb := ⟨_, rfl⟩
  have hM1 : M ≤ 2000 := by omega
  have hadd : wrap64 ((na : Int) + (nb : Int)) = (M : Int) := by unfold wrap64; omega
  have hmk : (Instr.makeSlice 57 (.int .i64 (M : Int)) (.int .i64 (M : Int))).run Try.prog w = .ok (.slice (some ⟨w.heap.size, 0, none⟩) M M) (w.alloc (.cells (madeCells #[.int .i64 0] M) 3)) := by
    have := run_mk el_int M (by omega) w
    simpa [Value.cells] using this
  have hadd2 : (na : Int) + (nb : Int) = (M : Int) := by omega
  have H := Sealed.mk (And.intro ha (And.intro hb (And.intro hBa (And.intro hBb (And.intro hna (And.intro hnb hM))))))
  clear ha hb hBa hBb hna hnb hM
  go_enter Try.func36, Try.ntmps36
  go_upto_region 2 with fail
  obtain ⟨W0, hW0⟩ : ∃ W0, W0 = w.alloc (.cells (madeCells #[.int .i64 0] M) 3) := ⟨_, rfl⟩
  have hown0 : W0.ownsRow w.heap.size 3 1 (.slice (some ⟨w.heap.size, 0, none⟩) M M) M (zrow (List.replicate M 0)) := by
    have := World.ownsRow_lit (base := w.heap.size) (e := 3) (size := 1) w (madeCells #[.int .i64 0] M) M (Nat.le_refl _) (by unfold maxLen; omega) (by simp [size_madeCells])
    rw [hW0]
    rw [toList_madeCells_one] at this
    simpa [zrow] using this
  have hb0 : Below w.heap.size w W0 := by rw [hW0]; exact (Below.refl _ _).alloc (Nat.le_refl _) _
  have R0 : Sealed (PrR w W0 M la lb 0 0 0) :=
    ⟨List.replicate M 0, by simp, by rw [vl_zeros]; simp [vl], fun j z h => by rw [List.eq_of_mem_replicate (List.mem_of_getElem? h)]; omega, fun j z _ h => by rw [List.eq_of_mem_replicate (List.mem_of_getElem? h)]; omega, hown0, hb0⟩
  rw [← hW0]
  clear hW0 hmk hown0 hb0 hadd hadd2
  go_wp2_with fail
  go_loopg [6, 7] na (fun jj iv kv W => ∃ i : Nat, jj = na - i ∧ i ≤ na ∧ iv = .int .i64 (i : Int) ∧ Sealed (PrR w W M la lb i 0 0))
  case atStart => exact ⟨0, rfl, Nat.zero_le _, rfl, R0⟩
  case round =>
    obtain ⟨i, rfl, hi, rfl, HK⟩ := hrel
    by_cases hin : i < na
    · obtain ⟨a, haa⟩ : ∃ a, la[i]? = some a := ⟨_, List.getElem?_eq_getElem (by have := H.out.2.2.2.2.1; omega)⟩
      have hin' : (i : Int) < (na : Int) := by omega
      have hiw : wrap64 ((i : Int) + 1) = (i : Int) + 1 := by unfold wrap64; omega
      have HA := Sealed.mk haa; clear haa
      have R1 : Sealed (PrR w wr M la lb i 0 a) := by
        obtain ⟨r, h1, h2, h3, h4, h5, h6⟩ := HK.out
        exact ⟨⟨r, h1, by rw [h2]; simp [vl], h3, h4, h5, h6⟩⟩
      clear HK
      go_wp2_with fail
      go_loopg [7] nb (fun jj kv W => ∃ k : Nat, jj = nb - k ∧ k ≤ nb ∧ kv = .int .i64 (k : Int) ∧ Sealed (PrR w W M la lb i k a))
      case atStart => exact ⟨0, rfl, Nat.zero_le _, rfl, R1⟩
      case round =>
        obtain ⟨k, rfl, hk, rfl, HK⟩ := hrel
        by_cases hkn : k < nb
        · obtain ⟨z, hz⟩ : ∃ z, lb[k]? = some z := ⟨_, List.getElem?_eq_getElem (by have := H.out.2.2.2.2.2.1; omega)⟩
          obtain ⟨r, h1, h2, h3, h4, h5, h6⟩ := HK.out
          obtain ⟨b1, o1, rfl, c1⟩ := (H.out.1.below h6).cell HA.out
          obtain ⟨b2, o2, rfl, c2⟩ := (H.out.2.1.below h6).cell hz
          have hMM := H.out.2.2.2.2.2.2
          obtain ⟨q, hq⟩ : ∃ q, q = i + k := ⟨_, rfl⟩
          obtain ⟨y, hy⟩ : ∃ y, r[q]? = some y := ⟨_, List.getElem?_eq_getElem (by omega)⟩
          have c3 := own_cell h5 (b := w.heap.size) rfl (zrow_get hy)
          have f1 := own_free h5 (b := w.heap.size) rfl q
          have hkn' : (k : Int) < (nb : Int) := by omega
          have hqM : (q : Int) < (M : Int) := by omega
          have hqa : (i : Int) + (k : Int) = (q : Int) := by omega
          have hyB := h4 q y (by omega) hy
          have hdB := ten_mul (H.out.2.2.1 a (List.mem_of_getElem? HA.out)) (H.out.2.2.2.1 z (List.mem_of_getElem? hz))
          obtain ⟨d, hd⟩ : ∃ d, d = a * z := ⟨_, rfl⟩
          rw [← hd] at hdB
          have hk9 : -1000000000000 ≤ (k : Int) + 1 ∧ (k : Int) + 1 ≤ 1000000000000 := by omega
          have hq9 : -1000000000000 ≤ (q : Int) ∧ (q : Int) ≤ 1000000000000 := by omega
          have hd9 : -1000000000000 ≤ d ∧ d ≤ 1000000000000 := by omega
          have hy9 : -1000000000000 ≤ y + d ∧ y + d ≤ 1000000000000 := by omega
          have HB9 := Sealed.mk hyB
          have HB8 := Sealed.mk hdB
          have hkw : wrap64 ((k : Int) + 1) = (k : Int) + 1 := w64_in hk9.1 hk9.2
          have hqw : wrap64 ((i : Int) + (k : Int)) = (q : Int) := by rw [hqa]; exact w64_in hq9.1 hq9.2
          have g1 : wrap64 (a * z) = d := by rw [← hd]; exact w64_in hd9.1 hd9.2
          have g2 : wrap64 (y + d) = y + d := w64_in hy9.1 hy9.2
          have hqi : IntKind.i64.wrap ((i : Int) + (k : Int)) = (q : Int) := by rw [hqa]; exact i64_in hq9.1 hq9.2
          have gi1 : IntKind.i64.wrap (a * z) = d := by rw [← hd]; exact i64_in hd9.1 hd9.2
          have gi2 : IntKind.i64.wrap (y + d) = y + d := i64_in hy9.1 hy9.2
          clear hqa hk9 hq9 hd9 hy9
          have d1 : wr.drew.cell? ⟨b1, o1 + i, none⟩ = some (.int .i64 a) := c1
          have d2 : wr.drew.cell? ⟨b2, o2 + k, none⟩ = some (.int .i64 z) := c2
          have d3 : wr.drew.cell? ⟨w.heap.size, q, none⟩ = some (.int .i64 y) := c3
          have d4 : wr.drew.frozen? ⟨w.heap.size, q, none⟩ = false := f1
          have HR := Sealed.mk (And.intro h1 (And.intro h2 (And.intro h3 (And.intro h4 (And.intro h5 (And.intro h6 (And.intro hz (And.intro hy (And.intro hd hq)))))))))
          clear hyB hdB
          clear h1 h2 h3 h4 h5 h6 hz hy hd hq hMM
          go_upto_region 8 with fail
          refine wp_region_still_tail 21 (by kernel_rfl) (by kernel_rfl) ?_
          simp only [List.take_succ_cons, List.take_zero, List.drop_succ_cons, List.drop_zero]
          (repeat still_step)
          refine wpStill_nil ?_
          change wpList _ _ _ _ _ wr.drew
          go_wp2_with fail
          go_roundg (nb - (k + 1))
          case measure => omega
          case rel =>
            obtain ⟨h1, h2, h3, h4, h5, h6, hz, hy, hd, hq⟩ := HR.out
            clear g1 hqw hqi gi1 gi2
            have hb : Below w.heap.size w wr.drew := h6.trans ⟨rfl, rfl, rfl, Nat.le_refl _, fun _ _ => rfl⟩
            refine ⟨k + 1, rfl, by omega, by push_cast; rfl, ⟨r.set q (y + d), by simpa using h1, ?_, fun j x hx => ?_, fun j x hj hx => ?_, ?_, hb.setCell (Nat.le_refl _) _⟩⟩
            · rw [vl_set r q _ y hy, vl_take hz, h2, hd, show y + a * z - y = a * z by omega, hq, Int.pow_add, Int.mul_add, Int.mul_add, Int.add_assoc, Int.mul_assoc (2 ^ i), Int.mul_left_comm a]
            · by_cases hjq : j = q
              · subst hjq
                rw [List.getElem?_set_self (List.getElem?_eq_some_iff.1 hy).1] at hx
                obtain rfl := Option.some.inj hx
                have e8 := HB8.out
                have e9 := HB9.out
                clear g2 hkw
                omega
              · rw [List.getElem?_set_ne (fun e => hjq e.symm)] at hx
                exact h3 j x hx
            · have hjk : i + (k + 1) ≤ j := hj
              rw [List.getElem?_set_ne (show q ≠ j by omega)] at hx
              exact h4 j x (by omega) hx
            · rw [zrow_set]
              (try rw [g2])
              exact own_set (w := wr.drew) (j := q) h5 rfl (by have := (List.getElem?_eq_some_iff.1 hy).1; omega) _
        · obtain rfl : k = nb := by omega
          have R2 : Sealed (PrR w wr M la lb (i + 1) 0 0) := by
            obtain ⟨r, h1, h2, h3, h4, h5, h6⟩ := HK.out
            refine ⟨⟨r, h1, ?_, fun j z hz => by have := h3 j z hz; push_cast; omega, fun j z _ hz => by have := h3 j z hz; push_cast; omega, h5, h6⟩⟩
            rw [h2, H.out.2.2.2.2.2.1, List.take_length, vl_take HA.out, Int.add_mul, Int.mul_assoc]
            simp [vl]
          clear HK R1
          go_wp2_with fail
          go_roundg (na - (i + 1))
          case measure => omega
          case rel => exact ⟨i + 1, rfl, by omega, by push_cast; rfl, R2⟩
    · obtain rfl : i = na := by omega
      obtain ⟨r, h1, h2, h3, h4, h5, h6⟩ := HK.out
      rw [H.out.2.2.2.2.1, List.take_length] at h2
      have hv : vl r = vl la * vl lb := by rw [h2]; simp [vl]
      have HR := Sealed.mk (And.intro h1 (And.intro hv (And.intro h3 (And.intro h5 h6))))
      clear h1 h2 h3 h4 h5 h6 HK hv
      go_wp2_with fail
      go_ret
      obtain ⟨h1, h2, h3, h5, h6⟩ := HR.out
      refine ⟨_, M, r, by rw [h1]; rfl, by rw [h1, H.out.2.2.2.2.2.2], h2, fun z hz => ?_, ?_, h6⟩
      · obtain ⟨j, hj⟩ := List.getElem?_of_mem hz
        have := h3 j z hj
        omega
      · rw [h1]; exact h5

end Go.Proofs.Ytgchfbfgjanaiaa

namespace Go.Proofs.Ytgchfbfgjanaiaa
open Go.RowKit Sr

theorem int_ok {x : Int} (h : Is64 x) : toI64 x = .tuple #[.int .i64 x, .bool true] := by unfold toI64; rw [if_pos h]; simp [h]

theorem terms_get {w : World} {B g n c : Nat} {l : List (Bool × Int)} {ts : List (Bool × Option Addr)} (h : TermsOwn w B (.slice (some ⟨g, 0, none⟩) n c) l ts) {i : Nat} {s : Bool × Int} (hs : l[i]? = some s) : ∃ q, w.cell? ⟨g, i * 2, none⟩ = some (.bool s.1) ∧ w.cell? ⟨g, i * 2 + 1, none⟩ = some (.pointer q) ∧ NumIs w (.agg #[.pointer q]) s.2 := by
  have hi : i < ts.length := by rw [h.len]; exact (List.getElem?_eq_some_iff.1 hs).1
  have ht : ts[i]? = some ts[i] := List.getElem?_eq_getElem hi
  obtain ⟨h1, h2⟩ := h.num i _ s ht hs
  obtain ⟨d0, d1⟩ := trow_at ts i _ ht
  exact ⟨ts[i].2, by rw [← h1]; exact own_cell h.own rfl d0, own_cell h.own rfl d1, h2⟩

theorem own_typ5 {w : World} {B t s n q : Nat} {v : Value} {xs : List Value} (h : w.ownsRow B t s v n xs) (hq : v.ownBlock = some q) : ∃ cs, ∃ fz : Unit, w.heap[q]? = some (.cells cs t (0, 0)) := by
  rcases h.2 with ⟨rfl, _⟩ | ⟨g, cap, cur, rfl, _, hg, _⟩
  · simp [Value.ownBlock] at hq
  · have : g = q := Option.some.inj hq
    subst this
    exact ⟨_, (), hg⟩

/-- the list of factors on its way -/
def SprR (w2 W : World) (last : Int) (ov : Value) (m : Nat) (V : Int) : Prop :=
  ∃ r : List Int, r.length = m ∧ vl r = V ∧ (∀ z ∈ r, -1 ≤ z ∧ z ≤ 1) ∧ (∀ (j : Nat) (z : Int), (j : Int) < last → r[j]? = some z → z = 0) ∧ W.ownsRow w2.heap.size 3 1 ov m (zrow r) ∧ Below w2.heap.size w2 W

theorem SprR.adv {w2 W W' : World} {last : Int} {ov : Value} {m : Nat} {V : Int} (h : SprR w2 W last ov m V) (e : Below W.heap.size W W') : SprR w2 W' last ov m V := by
  obtain ⟨r, h1, h2, h3, h4, h5, h6⟩ := h
  exact ⟨r, h1, h2, h3, h4, own_ext h5 (Ext.of_below (M := noB) e) (fun _ _ h => h), below_chain h6 e⟩
/-- a zero behind -/
theorem SprR.zero {w2 W W' : World} {last : Int} {ov ov' : Value} {m : Nat} {V : Int} {r : List Int} (h1 : r.length = m) (h2 : vl r = V) (h3 : ∀ z ∈ r, -1 ≤ z ∧ z ≤ 1) (h4 : ∀ (j : Nat) (z : Int), (j : Int) < last → r[j]? = some z → z = 0) (h5 : W.ownsRow w2.heap.size 3 1 ov m (zrow r)) (h6 : Below w2.heap.size w2 W)
    (hg : W.grownBy W' ov.ownBlock) (ho : W'.ownsRow w2.heap.size 3 1 ov' (m + 1) (zrow r ++ [.int .i64 0])) : SprR w2 W' last ov' (m + 1) V := by
  refine ⟨r ++ [0], by simp [h1], by rw [vl_append, h2]; simp [vl], fun z hz => ?_, fun j z hj hz => ?_, by rw [zrow_append]; exact ho, h6.grown hg h6.size (fun q hq => own_ge h5 q hq)⟩
  · rcases List.mem_append.1 hz with hz | hz
    · exact h3 z hz
    · obtain rfl := List.mem_singleton.1 hz; omega
  · by_cases hjl : j < r.length
    · rw [List.getElem?_append_left hjl] at hz; exact h4 j z hj hz
    · rw [List.getElem?_append_right (by omega)] at hz
      rcases Nat.eq_zero_or_pos (j - r.length) with h0 | h0
      · rw [h0] at hz; simpa using hz.symm
      · rw [List.getElem?_eq_none (by simp; omega)] at hz; simp at hz
/-- a factor is written -/
theorem SprR.put {w2 W : World} {last : Int} {g c m : Nat} {V : Int} {e : Nat} (h : SprR w2 W last (.slice (some ⟨g, 0, none⟩) m c) m V) (hm : e < m) (hl : (e : Int) < last) {z : Int} (hz : -1 ≤ z ∧ z ≤ 1) :
    SprR w2 (W.setCell ⟨g, e, none⟩ (.int .i64 z)) (e : Int) (.slice (some ⟨g, 0, none⟩) m c) m (V + 2 ^ e * z) := by
  obtain ⟨r, h1, h2, h3, h4, h5, h6⟩ := h
  obtain ⟨y, hy⟩ : ∃ y, r[e]? = some y := ⟨_, List.getElem?_eq_getElem (by omega)⟩
  have hy0 := h4 e y hl hy
  refine ⟨r.set e z, by simpa using h1, by rw [vl_set r e z y hy, h2, hy0, Int.sub_zero], fun q hq => ?_, fun j q hj hq => ?_, by rw [zrow_set]; exact own_set (j := e) h5 rfl (by omega) _, h6.setCell (own_ge h5 g rfl) _⟩
  · rcases List.mem_or_eq_of_mem_set hq with hq | rfl
    · exact h3 q hq
    · exact hz
  · rw [List.getElem?_set_ne (show e ≠ j by omega)] at hq
    exact h4 j q (by omega) hq
/-- the last factor is written again -/
theorem SprR.again {w2 W : World} {g c m : Nat} {V : Int} {e : Nat} (h : SprR w2 W (e : Int) (.slice (some ⟨g, 0, none⟩) m c) m (V + 2 ^ e * 1)) (hc : W.cell? ⟨g, e, none⟩ = some (.int .i64 1)) (hm : e < m) :
    SprR w2 (W.setCell ⟨g, e, none⟩ (.int .i64 (-1))) (e : Int) (.slice (some ⟨g, 0, none⟩) m c) m (V + 2 ^ e * (-1)) := by
  obtain ⟨r, h1, h2, h3, h4, h5, h6⟩ := h
  obtain ⟨y, hy⟩ : ∃ y, r[e]? = some y := ⟨_, List.getElem?_eq_getElem (by omega)⟩
  have hy1 : y = 1 := by
    have := own_cell h5 (b := g) rfl (zrow_get hy)
    rw [hc] at this
    simpa using (Option.some.inj this).symm
  refine ⟨r.set e (-1), by simpa using h1, ?_, fun q hq => ?_, fun j q hj hq => ?_, by rw [zrow_set]; exact own_set (j := e) h5 rfl (by omega) _, h6.setCell (own_ge h5 g rfl) _⟩
  · rw [vl_set r e _ y hy, h2, hy1]
    omega
  · rcases List.mem_or_eq_of_mem_set hq with hq | rfl
    · exact h3 q hq
    · omega
  · rw [List.getElem?_set_ne (show e ≠ j by omega)] at hq
    exact h4 j q (by omega) hq

set_option maxRecDepth 100000 in
set_option maxHeartbeats 4000000 in
theorem lawSpread_any {w : World} {u : Value} {x : Int} (h : NumIs w u x) (he : ∀ e ∈ exps x, e ≤ 1000) :
    Calls Try.prog 75 #[u] w fun e w' => ∃ a c r, e = .returned (.tuple #[.slice a r.length c, .bool true]) ∧ vl r = x ∧ r.length ≤ 1001 ∧ (∀ z ∈ r, -1 ≤ z ∧ z ≤ 1) ∧
      w'.ownsRow w.heap.size 3 1 (.slice a r.length c) r.length (zrow r) ∧ Below w.heap.size w w' := by
  obtain ⟨p, rfl⟩ := h.ptr
  have S0 := (St.start w).new h
  obtain ⟨W1, hW1⟩ : ∃ W1, W1 = w.alloc (.cells #[.pointer p] 30) := ⟨_, rfl⟩
  rw [← hW1] at S0
  have hT := Terms_any (S0.cnum 0 rfl)
  have c0 := S0.cell 0 rfl
  obtain ⟨n, hn⟩ : ∃ n, n = wl x := ⟨_, rfl⟩
  have hnl : (form x).length = n := hn.symm
  rw [← hn] at hT
  have HT := Sealed.mk hT
  have H := Sealed.mk (And.intro S0 (And.intro he (And.intro hnl h)))
  clear hT S0 he hnl h hn
  go_enter Try.func75, Try.ntmps75
  go_upto_region 1 with fail
  rw [← hW1]
  clear hW1
  go_upto_block 0 with (first
    | (go_at_call 41; go_must ((with_reducible refine HT.out.mono ?_); rintro e w2 ⟨a2, c2, ts, rfl, hto, hb⟩; have HO := Sealed.mk (And.intro hto hb); clear hto hb)))
  obtain ⟨W3, hW3⟩ : ∃ W3, W3 = w2.alloc (.cells #[] 3) := ⟨_, rfl⟩
  have R0 : Sealed (SprR w2 W3 1048576 (.slice (some ⟨w2.heap.size, 0, none⟩) 0 0) 0 (val ((form x).take 0))) := by
    refine ⟨⟨[], rfl, rfl, by simp, by simp, ?_, by rw [hW3]; exact below_new _ _⟩⟩
    have := World.ownsRow_lit (base := w2.heap.size) (e := 3) (size := 1) w2 #[] 0 (Nat.le_refl _) (by decide) rfl
    rw [hW3]
    simpa [zrow] using this
  rw [← hW3]
  clear hW3 HT
  have hn9 : n ≤ 300 := by rw [← H.out.2.2.1]; exact H.out.2.2.2.1.1
  go_wp2_with fail
  go_loopg [5, 6, 7] n (fun jj ov lv iv W => ∃ (k m : Nat) (last : Int) (oa : Option Addr) (oc : Nat), jj = n - k ∧ k ≤ n ∧ iv = .int .i64 (k : Int) ∧ ov = .slice oa m oc ∧ lv = .int .i64 last ∧ Sealed (SprR w2 W last (.slice oa m oc) m (val ((form x).take k)) ∧ m ≤ 1001 ∧ (0 < k → last < (m : Int)) ∧ 0 ≤ last ∧ last ≤ 1048576 ∧ ∀ t, (form x)[k]? = some t → (t.2 : Int) + 2 ≤ last))
  case atStart => exact ⟨0, 0, 1048576, _, 0, rfl, Nat.zero_le _, rfl, rfl, rfl, ⟨R0.out, by omega, by omega, by omega, by omega, fun t ht => by have := H.out.2.1 t.2 (mem_exps.2 ⟨t, List.mem_of_getElem? ht, rfl⟩); omega⟩⟩
  case round =>
    obtain ⟨k, m, last, oa, oc, rfl, hk, rfl, rfl, rfl, HK⟩ := hrel
    by_cases hkn : k < n
    · obtain ⟨⟨mi, e⟩, ht⟩ : ∃ t, (form x)[k]? = some t := ⟨_, List.getElem?_eq_getElem (by rw [H.out.2.2.1]; exact hkn)⟩
      have hb2 := HK.out.1
      obtain ⟨-, -, -, -, -, -, hbw⟩ := hb2
      have htz : (termsZ x)[k]? = some (mi, (e : Int)) := by unfold termsZ; rw [List.getElem?_map, ht]; rfl
      have hto := HO.out.1.below hbw
      have hmine := hto.own
      obtain ⟨g, cap, e1⟩ := own_form hmine (by unfold termsZ; rw [List.length_map, H.out.2.2.1]; omega)
      obtain ⟨rfl, -, rfl⟩ := Value.slice.inj e1
      obtain ⟨q, d0, d1, hq⟩ := terms_get hto htz
      have heB := H.out.2.1 e (mem_exps.2 ⟨_, List.mem_of_getElem? ht, rfl⟩)
      have hel := HK.out.2.2.2.2.2 _ ht
      simp only at hel
      have hl0 := HK.out.2.2.2.2.1
      have hm9 := HK.out.2.1
      have hnext : ∀ t, (form x)[k + 1]? = some t → (t.2 : Int) + 2 ≤ (e : Int) := fun t ht2 => by
        obtain ⟨j, hu⟩ := form_form x
        have := Go.Proofs.Ytgchfbfgjanaiaa.under_gap _ _ hu k _ t ht ht2
        simp only at this
        omega
      have hvt := val_take_snoc ht
      have hi64 : Is64 (e : Int) := by unfold Is64; omega
      have hI := Int_any hq
      rw [int_ok hi64] at hI
      have hkn' : (k : Int) < (n : Int) := by omega
      have hkw : wrap64 ((k : Int) + 1) = (k : Int) + 1 := by unfold wrap64; omega
      have bE0 : decide ((e : Int) < 0) = false := decide_eq_false (by omega)
      have bE1 : decide (last - 1 ≤ (e : Int)) = false := decide_eq_false (by omega)
      have hI2 := Sealed.mk hI
      have HE := Sealed.mk (And.intro hnext (And.intro hvt (And.intro hto (And.intro htz (And.intro heB hel))))); clear hnext hvt hto htz hI hi64 ht hmine e1 hq hbw
      go_upto_region 8 with (go_at_call 47; go_must ((with_reducible refine hI2.out.mono ?_); rintro e4 w4 ⟨rfl, hb4⟩; have K4 := Sealed.mk (HK.out.1.adv hb4); have d04 := (cell_same (hb4.block _ (lt_of_cell d0)) _).trans d0; have HB4 := Sealed.mk hb4; clear hb4))
      obtain ⟨W5, hW5⟩ : ∃ W5, W5 = w4 := ⟨_, rfl⟩
      rw [← hW5] at K4 d04 HB4 ⊢
      clear hW5 hI2
      have hm8 : 0 ≤ (e : Int) := by omega
      have HBD := Sealed.mk (And.intro (show (e : Int) < last by have := HE.out.2.2.2.2.2; omega) (And.intro HE.out.2.2.2.2.1 hm9))
      have hlast : last - 1 ≤ 1048576 ∧ 0 ≤ last := ⟨by omega, HK.out.2.2.2.1⟩
      go_upto_block 2 with fail
      go_wp2_with fail
      go_loopg [5] (e + 1 - m) (fun jj ov W => ∃ (mm : Nat) (ob : Option Addr) (od : Nat), jj = e + 1 - mm ∧ ov = .slice ob mm od ∧ mm ≤ 1001 ∧ Sealed (SprR w2 W last (.slice ob mm od) mm (val ((form x).take k))))
      case atStart => exact ⟨m, oa, oc, rfl, rfl, hm9, K4⟩
      case round =>
        obtain ⟨mm, ob, od, rfl, rfl, hmm, HR⟩ := hrel
        by_cases hme : mm ≤ e
        · have bM : decide ((mm : Int) ≤ (e : Int)) = true := decide_eq_true (by omega)
          obtain ⟨r, h1, h2, h3, h4, h5, h6⟩ := HR.out
          have HR2 := Sealed.mk (And.intro h1 (And.intro h2 (And.intro h3 (And.intro h4 (And.intro h5 h6)))))
          clear h1 h2 h3 h4 h5 h6 HR
          go_wp2_with (at_builtin; go_must (refine ap_litp (m := 1) el_int (.tmp 45) (.tmp 46) rfl rfl rfl HR2.out.2.2.2.2.1 rfl rfl rfl (by decide) (by simp [Value.oneCell']) (by omega) HR2.out.2.2.2.2.2.size ?_); go_must (intro g8 c8 w8 ho8 hg8 _; have HO8 := Sealed.mk (And.intro ho8 hg8); clear ho8 hg8))
          go_roundg (e + 1 - (mm + 1))
          case measure => omega
          case rel =>
            obtain ⟨h1, h2, h3, h4, h5, h6⟩ := HR2.out
            exact ⟨mm + 1, _, c8, rfl, rfl, by have := HBD.out; omega, ⟨SprR.zero h1 h2 h3 h4 h5 h6 HO8.out.2 HO8.out.1⟩⟩
        · have bM : decide ((mm : Int) ≤ (e : Int)) = false := decide_eq_false (by omega)
          obtain ⟨r, h1, h2, h3, h4, h5, h6⟩ := HR.out
          obtain ⟨gg, cc, e1⟩ := own_form h5 (by omega)
          obtain ⟨rfl, -, rfl⟩ := Value.slice.inj e1
          obtain ⟨y, hy⟩ : ∃ y, r[e]? = some y := ⟨_, List.getElem?_eq_getElem (by omega)⟩
          have c5 := own_cell h5 (b := gg) rfl (zrow_get hy)
          have f5 := own_free h5 (b := gg) rfl e
          have hem : (e : Int) < (mm : Int) := by omega
          have hput := SprR.put HR.out (e := e) (by omega) HBD.out.1 (z := 1) (by omega)
          obtain ⟨W6, hW6⟩ : ∃ W6, W6 = wr.setCell ⟨gg, e, none⟩ (.int .i64 1) := ⟨_, rfl⟩
          rw [← hW6] at hput
          have hgg := own_ge h5 gg rfl
          have hto6 := HO.out.1.below hput.choose_spec.2.2.2.2.2
          obtain ⟨q6, d6, -, -⟩ := terms_get hto6 HE.out.2.2.2.1
          simp only at d6
          have c6 : W6.cell? ⟨gg, e, none⟩ = some (.int .i64 1) := by
            obtain ⟨cs, fz, hbk⟩ := own_typ5 h5 (q := gg) rfl
            rw [hW6, cell_of_blk (blk_setCell hbk e _), Array.getElem?_setIfInBounds, if_pos rfl, if_pos]
            rw [cell_of_blk hbk] at c5
            exact (Array.getElem?_eq_some_iff.1 c5).1
          have f6 := own_free hput.choose_spec.2.2.2.2.1 (b := gg) rfl e
          have HP := Sealed.mk hput
          clear hput hto6 h1 h2 h3 h4 h5 h6 hy e1 HR
          go_upto_region 14 with fail
          rw [← hW6]
          clear hW6 c5 f5
          cases mi
          · go_wp2_with fail
            go_roundg (n - (k + 1))
            case measure => omega
            case rel =>
              refine ⟨k + 1, mm, (e : Int), _, od, rfl, by omega, by push_cast; rfl, rfl, rfl, ⟨?_, hmm, fun _ => hem, by omega, by have := HBD.out; omega, HE.out.1⟩⟩
              have e2 : val ((form x).take (k + 1)) = val ((form x).take k) + 2 ^ e * 1 := by rw [HE.out.2.1]; simp [tv]
              rw [e2]; exact HP.out
          · go_wp2_with fail
            go_roundg (n - (k + 1))
            case measure => omega
            case rel =>
              refine ⟨k + 1, mm, (e : Int), _, od, rfl, by omega, by push_cast; rfl, rfl, rfl, ⟨?_, hmm, fun _ => hem, by omega, by have := HBD.out; omega, HE.out.1⟩⟩
              have e2 : val ((form x).take (k + 1)) = val ((form x).take k) + 2 ^ e * (-1) := by rw [HE.out.2.1]; simp [tv]
              rw [e2]; exact SprR.again HP.out c6 (by omega)
    · obtain rfl : k = n := by omega
      have hx : val ((form x).take k) = x := by rw [← H.out.2.2.1, List.take_length, val_form]
      obtain ⟨r, h1, h2, h3, h4, h5, h6⟩ := HK.out.1
      rw [hx] at h2
      have HF := Sealed.mk (And.intro h1 (And.intro h2 (And.intro h3 (And.intro h5 (And.intro h6 HK.out.2.1)))))
      clear h1 h2 h3 h4 h5 h6 hx HK
      go_wp2_with fail
      refine bodyPost_ret (v := .tuple #[.slice oa m oc, .bool true]) (by simp [results, Try.results75, go_sem]) rfl ?_
      obtain ⟨h1, h2, h3, h5, h6, h7⟩ := HF.out
      have hs : w.heap.size ≤ w2.heap.size := Nat.le_trans H.out.1.below.size HO.out.2.size
      refine ⟨oa, oc, r, by rw [h1], h2, by omega, h3, by rw [h1]; exact own_lower h5 hs, ?_⟩
      exact below_chain (below_chain H.out.1.below HO.out.2) h6

end Go.Proofs.Ytgchfbfgjanaiaa

namespace Go.Proofs.Ytgchfbfgjanaiaa
open Go.RowKit Sr

set_option maxRecDepth 100000 in
set_option maxHeartbeats 4000000 in
theorem lawIs_any {w : World} {u fv : Value} {x : Int} {f : List Int} (h : NumIs w u x) (hf : IntsAt w fv f) (he : ∀ e ∈ exps x, e ≤ 1000) (hB : ∀ z ∈ f, -100000000 ≤ z ∧ z ≤ 100000000) (hv : vl f = x) :
    Calls Try.prog 31 #[u, fv] w fun e w' => e = .returned (.bool true) ∧ Below w.heap.size w w' := by
  obtain ⟨p, rfl⟩ := h.ptr
  have S0 := (St.start w).new h
  obtain ⟨W1, hW1⟩ : ∃ W1, W1 = w.alloc (.cells #[.pointer p] 30) := ⟨_, rfl⟩
  have hf1 := hf.below (below_new w (.cells #[.pointer p] 30))
  rw [← hW1] at S0 hf1
  have c0 := S0.cell 0 rfl
  have S := Sealed.mk S0
  have F := Sealed.mk hf1
  obtain ⟨s, hs⟩ : ∃ s, s = sg x := ⟨_, rfl⟩
  have bS : (s == s) = true := by simp
  have H := Sealed.mk (And.intro he (And.intro hB (And.intro hv hs)))
  clear S0 hf1 h hf he hB hv hs
  go_enter Try.func31, Try.ntmps31
  go_upto_region 1 with fail
  rw [← hW1]
  clear hW1
  go_wp2_with (first
    | (go_at_call 75; go_must ((with_reducible refine (lawSpread_any (S.out.cnum 0 rfl) H.out.1).mono ?_); rintro e w2 ⟨a2, c2, r2, rfl, hv2, hl2, hB2, ho2, hb2⟩; replace S := Sealed.mk (S.out.adv hb2); replace F := Sealed.mk (F.out.below hb2); have cS2 := S.out.cell 0 rfl; have R2 := Sealed.mk (And.intro (IntsAt.of_own ho2 (by omega)) (And.intro hv2 hB2)); clear hv2 hl2 hB2 ho2 hb2))
    | (go_at_call 35; go_must ((with_reducible refine (rSums_any (C := 100000000) (by decide) R2.out.1 F.out (.inr rfl) (fun z hz => by have := R2.out.2.2 z hz; omega) H.out.2.1).mono ?_); rintro e w3 ⟨a3, c3, r3, rfl, hl3, hv3, hB3, ho3, hb3⟩; have hl9 : r3.length ≤ 1000000 := (by have h1 := R2.out.1.len; have h2 := F.out.len; omega); replace S := Sealed.mk (S.out.adv hb3); replace F := Sealed.mk (F.out.below hb3); have cS3 := S.out.cell 0 rfl; have R3 := Sealed.mk (And.intro (IntsAt.of_own ho3 hl9) (And.intro (show vl r3 = 0 by rw [hv3, R2.out.2.1, H.out.2.2.1]; omega) hB3)); clear hv3 hl3 hl9 hB3 ho3 hb3))
    | (go_at_call 38; go_must (first
        | (have hq := rSigned_any R3.out.1 (fun z hz => by have := R3.out.2.2 z hz; omega); rw [R3.out.2.1] at hq; (with_reducible refine hq.mono ?_); clear hq; rintro e w4 ⟨rfl, hb4⟩; replace S := Sealed.mk (S.out.adv hb4); replace F := Sealed.mk (F.out.below hb4); have cS4 := S.out.cell 0 rfl; clear hb4; rw [show sg 0 = 0 from rfl])
        | (have hq := rSigned_any F.out (fun z hz => by have := H.out.2.1 z hz; omega); rw [H.out.2.2.1, ← H.out.2.2.2] at hq; (with_reducible refine hq.mono ?_); clear hq; rintro e w5 ⟨rfl, hb5⟩; replace S := Sealed.mk (S.out.adv hb5); clear hb5)))
    | (go_at_call 42; go_must (have hq := Sign_any (S.out.cnum 0 rfl); rw [← H.out.2.2.2] at hq; (with_reducible refine hq.mono ?_); clear hq; rintro e w6 ⟨rfl, hb6⟩; replace S := Sealed.mk (S.out.adv hb6); replace F := Sealed.mk (F.out.below hb6); clear hb6)))
  go_ret
  exact ⟨rfl, S.out.below⟩

end Go.Proofs.Ytgchfbfgjanaiaa
