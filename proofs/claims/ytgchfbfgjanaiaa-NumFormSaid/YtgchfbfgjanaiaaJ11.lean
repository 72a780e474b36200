/-
  slices.SortFunc of places (HeapSort1): after the kit's walk at a comparison that turns nothing
  what slices.SortFunc calls besides: bits.Len, nextPowerOfTwo, (*xorshift).Next: after the kit's walks
  slices.SortFunc of places (BreakPatterns1): after the kit's walk at a comparison that turns nothing
  slices.SortFunc of places (Median1): after the kit's walk at a comparison that turns nothing
  slices.SortFunc of places (Pivot1): after the kit's walk at a comparison that turns nothing
  slices.SortFunc of places (ReverseRange1): after the kit's walk at a comparison that turns nothing
-/
import Derived.Test.YtgchfbfgjanaiaaJ07
import Derived.Test.YtgchfbfgjanaiaaJ10
import Derived.Shelf.SlSortFuncK.HeapSortK
import Derived.Sort.WalkB2
import Derived.Sort.WalkB12
import Derived.Deep.LoopGhost
import Derived.Shelf.Small.Bits
import Derived.Shelf.SlSortCmp.Xorshift
import Derived.Deep.Light
import Derived.Shelf.SlSortFuncK.BreakPatternsK
import Derived.Sort.Walk7
import Derived.Shelf.SlSortFuncK.PivotK
set_option linter.unusedSimpArgs false
set_option linter.unusedVariables false
namespace Go.Proofs.Ytgchfbfgjanaiaa
open Go.RowKit Go.Lib Go.Sort Sr
variable {X : SC}
set_option maxHeartbeats 8000000 in
set_option maxRecDepth 1000000 in
theorem heapSortCmpFunc_x (a b : Nat) (d : Array Nat) (w : World)
    (S : SX X d w) (hab : a ≤ b) (hb : b ≤ d.size) (hsz : d.size < 4611686018427387904) :
    Calls Try.prog 109 #[.slice (some ⟨X.blk, 0, none⟩) d.size X.cap, .int .i64 a, .int .i64 b, .func (.func 78) #[.pointer (some ⟨X.b.p, 0, none⟩)] #[]] w fun e w' =>
      e = .returned (.tuple #[]) ∧ SX X (heapSort (ltOf X.cf) d a b) w' := by
  have hcl0 := oneN.cells
  simp only [Value.cells] at hcl0
  have hst := oneN.store Try.prog
  have S0 : Aside _ := S
  clear S
  have ecast : ((b - a : Nat) : Int) = (b : Int) - (a : Int) := by omega
  go_enter Try.func109, Try.ntmps109
  go_wp2
  go_loopg [11] ((b - a - 1) / 2 + 1) (fun kx s11 wr => s11 = .int .i64 ((kx : Int) - 1) ∧ kx ≤ (b - a - 1) / 2 + 1 ∧ ∃ (dk : Array Nat), dk.size = d.size ∧ Aside (SX X dk wr) ∧
    Hid (heapBuild (ltOf X.cf) (b - a) a kx dk = heapBuild (ltOf X.cf) (b - a) a ((b - a - 1) / 2 + 1) d))
  case atStart => exact ⟨by rw [half_start hab], Nat.le_refl _, d, rfl, S0, rfl⟩
  case round =>
    clear S0
    obtain ⟨rfl, hkk, dk, hds, S1, HE⟩ := hrel
    cases gk with
    | zero =>
      -- the heap stands; now the greatest is taken off, one after another
      have hB : dk = heapBuild (ltOf X.cf) (b - a) a ((b - a - 1) / 2 + 1) d := HE.out
      clear HE hkk
      go_wp2
      go_loopg [12] (b - a) (fun kx s12 wr2 => s12 = .int .i64 ((kx : Int) - 1) ∧ kx ≤ b - a ∧ ∃ (dj : Array Nat), dj.size = d.size ∧ Aside (SX X dj wr2) ∧ Hid (heapPop (ltOf X.cf) a kx dj = heapPop (ltOf X.cf) a (b - a) dk))
      case atStart => exact ⟨by rw [ecast], Nat.le_refl _, dk, hds, S1, rfl⟩
      case round =>
        clear S1
        obtain ⟨rfl, hkk, dj, hdj, S1, HE2⟩ := hrel
        cases gk with
        | zero =>
          go_wp2
          go_end0
          have e : dj = heapSort (ltOf X.cf) d a b := by rw [heapSort, ← hB, ← HE2.out]; rfl
          rw [← e]
          exact ⟨rfl, S1.out⟩
        | succ kx =>
          -- the exchange; then the sift down
          have ekx : ((kx + 1 : Nat) : Int) - 1 = (kx : Int) := by omega
          go_wp2_with fail
          obtain ⟨iN1196, hiN1196⟩ : ∃ q, q = a := ⟨_, rfl⟩
          obtain ⟨jN1196, hjN1196⟩ : ∃ q, q = a + kx := ⟨_, rfl⟩
          have ea1196 : ((a : Int)).toNat = iN1196 := by omega
          have pa1196 : (0 : Int) ≤ (a : Int) := by omega
          have ba1196 : (a : Int) < (d.size : Int) := by omega
          have ra1196 : IntKind.i64.wrap ((a : Int)) = (a : Int) := by rw [IntKind.wrap_i64]; omega
          have ec1196 : ((a : Int) + (kx : Int)).toNat = jN1196 := by omega
          have pc1196 : (0 : Int) ≤ (a : Int) + (kx : Int) := by omega
          have bc1196 : (a : Int) + (kx : Int) < (d.size : Int) := by omega
          have rc1196 : IntKind.i64.wrap ((a : Int) + (kx : Int)) = (a : Int) + (kx : Int) := by rw [IntKind.wrap_i64]; omega
          obtain ⟨x1196, hx1196⟩ : ∃ x, x = dj[a]! := ⟨_, rfl⟩
          obtain ⟨y1196, hy1196⟩ : ∃ x, x = dj[a + kx]! := ⟨_, rfl⟩
          have S2 : Aside (SX X (swp dj (a) (a + kx)) ((wr.setCell ⟨X.blk, iN1196, none⟩ (encN y1196)).setCell ⟨X.blk, jN1196, none⟩ (encN x1196)).drew) := by rw [hiN1196, hjN1196, hx1196, hy1196]; exact S1.out.swapped (a) (a + kx) (by omega) (by omega)
          have c1196a := S1.out.c1 (a) (by omega)
          have c1196b := S1.out.c1 (a + kx) (by omega)
          have f1196a := S1.out.f1 (a) (by omega)
          have f1196b := S1.out.f1 (a + kx) (by omega)
          obtain ⟨u1196, c1196c⟩ := S1.out.c2 (a) (a + kx) (by omega) (by omega) (encN y1196)
          rw [← hjN1196, ← hiN1196] at c1196c
          rw [← hx1196, ← hiN1196] at c1196a
          rw [← hy1196, ← hjN1196] at c1196b
          rw [← hiN1196] at f1196a
          rw [← hjN1196] at f1196b
          clear S1 hx1196 hy1196 hiN1196 hjN1196
          go_wp2_with fail
          go_region
          clear c1196a c1196b c1196c f1196a f1196b
          generalize ((wr.setCell ⟨X.blk, iN1196, none⟩ (encN y1196)).setCell ⟨X.blk, jN1196, none⟩ (encN x1196)).drew = w2 at S2 ⊢
          clear ea1196 ec1196
          have hd2 : (swp dj a (a + kx)).size = d.size := by rw [size_swp]; exact hdj
          have hcall := siftDownCmpFunc_x (X := X) 0 kx a (swp dj a (a + kx)) w2 S2.out (Nat.zero_le _) (by omega) (by omega)
          rw [hd2] at hcall
          clear S2
          go_wp2_with (go_at_call 118; refine hcall.mono ?_; rintro e w1 ⟨rfl, S3⟩)
          go_roundg kx
          case measure => omega
          case rel =>
            have hss : (siftDown (ltOf X.cf) kx a 0 (swp dj a (a + kx))).size = (swp dj a (a + kx)).size := size_siftDown (ltOf X.cf) _ _ _ _ _ (Nat.le_refl _)
            exact ⟨by simp, by omega, siftDown (ltOf X.cf) kx a 0 (swp dj a (a + kx)), by rw [hss, hd2], S3, HE2⟩
    | succ kx =>
      have hcall := siftDownCmpFunc_x (X := X) kx (b - a) a dk wr S1.out (by omega) (by omega) (by omega)
      rw [ecast, hds] at hcall
      clear S1
      go_wp2_with (go_at_call 118; refine hcall.mono ?_; rintro e w1 ⟨rfl, S3⟩)
      go_roundg kx
      case measure => omega
      case rel =>
        have hss : (siftDown (ltOf X.cf) (b - a) a kx dk).size = dk.size := size_siftDown (ltOf X.cf) _ _ _ _ _ (Nat.le_refl _)
        exact ⟨by simp, by omega, siftDown (ltOf X.cf) (b - a) a kx dk, by rw [hss, hds], S3, HE⟩
end Go.Proofs.Ytgchfbfgjanaiaa

namespace Go.Proofs.Ytgchfbfgjanaiaa
open Go.RowKit Go.Lib Go.Sort Go.Shelf Sr
set_option maxRecDepth 100000 in
theorem len8tab_size_x : (Lib.len8tab.size : Int) = 256 := by
  have : Lib.len8tab.size = 256 := by decide
  omega
theorem wrap_add_x (k a b : Nat) (hk : k ≤ 56) (ha : a ≤ 8) (hb : b = k + a) : RowKit.wrap64 ((k : Int) + RowKit.wrap64 (a : Int)) = (b : Int) := by
  unfold RowKit.wrap64
  omega
theorem wrap_wrap_x (a : Nat) (ha : a ≤ 8) : RowKit.wrap64 (RowKit.wrap64 (a : Int)) = (a : Int) := by
  unfold RowKit.wrap64
  omega
theorem wrap_one_x (a : Nat) (ha : a ≤ 8) : RowKit.wrap64 (a : Int) = (a : Int) := by
  unfold RowKit.wrap64
  omega
theorem len8_get_x (y : Int) (h : y.toNat < Lib.len8tab.size) : ((Lib.len8tab[y.toNat]'h).toNat : Int) = Lib.len8 y := by
  unfold Lib.len8
  rw [getElem?_pos Lib.len8tab y.toNat h]
  rfl
set_option maxHeartbeats 32000000 in
set_option maxRecDepth 100000 in
theorem bits_Len64_x (x : Int) (w : World) (h0 : 0 ≤ x) (h1 : x ≤ 18446744073709551615) :
    Calls Try.prog 117 #[.int .u64 x] w fun e w' => e = .returned (.int .i64 (Lib.bitLen x.toNat)) ∧ w' = w := by
  go_enter Try.func117, Try.ntmps117
  go_wp2
  all_goals first
    | (go_ret; refine ⟨congrArg Ending.returned (congrArg (Value.int IntKind.i64) ?_), rfl⟩; go_light)
    | (exfalso
       go_light
       have hs := len8tab_size_x
       omega)
  all_goals first
    | (rw [len8_get_x (x / 4294967296 / 65536 / 256) _, Lib.len8_of (x / 4294967296 / 65536 / 256) (by omega) (by omega)]
       have e : (x / 4294967296 / 65536 / 256).toNat = x.toNat / 72057594037927936 := by omega
       have l := Lib.bitLen_le8' (x / 4294967296 / 65536 / 256) (by omega) (by omega)
       have s := Lib.bitLen_shift56 x.toNat (by omega) (by omega)
       rw [e] at l ⊢
       exact wrap_add_x 56 _ _ (by decide) l s)
    | (rw [len8_get_x (x / 4294967296 / 65536) _, Lib.len8_of (x / 4294967296 / 65536) (by omega) (by omega)]
       have e : (x / 4294967296 / 65536).toNat = x.toNat / 281474976710656 := by omega
       have l := Lib.bitLen_le8' (x / 4294967296 / 65536) (by omega) (by omega)
       have s := Lib.bitLen_shift48 x.toNat (by omega) (by omega)
       rw [e] at l ⊢
       exact wrap_add_x 48 _ _ (by decide) l s)
    | (rw [len8_get_x (x / 4294967296 / 256) _, Lib.len8_of (x / 4294967296 / 256) (by omega) (by omega)]
       have e : (x / 4294967296 / 256).toNat = x.toNat / 1099511627776 := by omega
       have l := Lib.bitLen_le8' (x / 4294967296 / 256) (by omega) (by omega)
       have s := Lib.bitLen_shift40 x.toNat (by omega) (by omega)
       rw [e] at l ⊢
       exact wrap_add_x 40 _ _ (by decide) l s)
    | (rw [len8_get_x (x / 4294967296) _, Lib.len8_of (x / 4294967296) (by omega) (by omega)]
       have e : (x / 4294967296).toNat = x.toNat / 4294967296 := by omega
       have l := Lib.bitLen_le8' (x / 4294967296) (by omega) (by omega)
       have s := Lib.bitLen_shift32 x.toNat (by omega) (by omega)
       rw [e] at l ⊢
       exact wrap_add_x 32 _ _ (by decide) l s)
    | (rw [len8_get_x (x / 65536 / 256) _, Lib.len8_of (x / 65536 / 256) (by omega) (by omega)]
       have e : (x / 65536 / 256).toNat = x.toNat / 16777216 := by omega
       have l := Lib.bitLen_le8' (x / 65536 / 256) (by omega) (by omega)
       have s := Lib.bitLen_shift24 x.toNat (by omega) (by omega)
       rw [e] at l ⊢
       exact wrap_add_x 24 _ _ (by decide) l s)
    | (rw [len8_get_x (x / 65536) _, Lib.len8_of (x / 65536) (by omega) (by omega)]
       have e : (x / 65536).toNat = x.toNat / 65536 := by omega
       have l := Lib.bitLen_le8' (x / 65536) (by omega) (by omega)
       have s := Lib.bitLen_shift16 x.toNat (by omega) (by omega)
       rw [e] at l ⊢
       exact wrap_add_x 16 _ _ (by decide) l s)
    | (rw [len8_get_x (x / 256) _, Lib.len8_of (x / 256) (by omega) (by omega)]
       have e : (x / 256).toNat = x.toNat / 256 := by omega
       have l := Lib.bitLen_le8' (x / 256) (by omega) (by omega)
       have s := Lib.bitLen_shift8 x.toNat (by omega) (by omega)
       rw [e] at l ⊢
       exact wrap_add_x 8 _ _ (by decide) l s)
    | (rw [len8_get_x (x) _, Lib.len8_of (x) (by omega) (by omega)]
       have e : (x).toNat = x.toNat := by omega
       have l := Lib.bitLen_le8' (x) (by omega) (by omega)
       rw [e] at l ⊢
       first | exact wrap_wrap_x _ l | exact wrap_add_x 0 _ _ (by decide) l (by omega) | exact wrap_one_x _ l)
theorem bits_Len_x (x : Int) (w : World) (h0 : 0 ≤ x) (h1 : x ≤ 18446744073709551615) :
    Calls Try.prog 106 #[.int .u64 x] w fun e w' => e = .returned (.int .i64 (Lib.bitLen x.toNat)) ∧ w' = w := by
  go_enter Try.func106, Try.ntmps106
  go_wp2_with (go_at_call 117; refine (bits_Len64_x x _ h0 h1).mono ?_; rintro e w' ⟨rfl, rfl⟩)
  go_ret
  exact ⟨rfl, rfl⟩
set_option maxHeartbeats 2000000 in
set_option maxRecDepth 1000000 in
theorem xorshift_Next_x (rb ro X : Nat) (hX : X < 18446744073709551616) (w : World) (hc : w.cell? ⟨rb, ro, none⟩ = some (.int .u64 X)) (hf : w.frozen? ⟨rb, ro, none⟩ = false) :
    Calls Try.prog 120 #[.pointer (some ⟨rb, ro, none⟩)] w fun e w' => e = .returned (.int .u64 (xorNextN X : Nat)) ∧ w' = (w.setCell ⟨rb, ro, none⟩ (.int .u64 (xorNextN X : Nat))).drewN 3 := by
  obtain ⟨A, hA⟩ : ∃ A : Nat, A = X ^^^ (X * 8192 % 18446744073709551616) := ⟨_, rfl⟩
  obtain ⟨B, hB⟩ : ∃ B : Nat, B = A ^^^ (A / 128) := ⟨_, rfl⟩
  obtain ⟨C, hC⟩ : ∃ C : Nat, C = B ^^^ (B * 131072 % 18446744073709551616) := ⟨_, rfl⟩
  have lA : A < 18446744073709551616 := by rw [hA]; exact Nat.xor_lt_two_pow (n := 64) (by omega) (by omega)
  have lB : B < 18446744073709551616 := by rw [hB]; exact Nat.xor_lt_two_pow (n := 64) (by omega) (by omega)
  have e1 : bits .xor .u64 (X : Int) (IntKind.u64.wrap ((X : Int) * 8192)) = (A : Int) := by
    rw [IntKind.wrap_u64, show ((X : Int) * 8192 % 18446744073709551616) = ((X * 8192 % 18446744073709551616 : Nat) : Int) by omega, bits_xor_u64_nat _ _ hX (by omega), hA]
  have e2 : bits .xor .u64 (A : Int) ((A : Int) / 128) = (B : Int) := by
    rw [show ((A : Int) / 128) = ((A / 128 : Nat) : Int) by omega, bits_xor_u64_nat _ _ lA (by omega), hB]
  have e3 : bits .xor .u64 (B : Int) (IntKind.u64.wrap ((B : Int) * 131072)) = (C : Int) := by
    rw [IntKind.wrap_u64, show ((B : Int) * 131072 % 18446744073709551616) = ((B * 131072 % 18446744073709551616 : Nat) : Int) by omega, bits_xor_u64_nat _ _ lB (by omega), hC]
  have hv : xorNextN X = C := by unfold xorNextN; simp only []; rw [← hA, ← hB, ← hC]
  rw [hv]
  clear hA hB hC hv
  have hss : ∀ v v', (w.setCell ⟨rb, ro, none⟩ v).setCell ⟨rb, ro, none⟩ v' = w.setCell ⟨rb, ro, none⟩ v' := setCell_setCell w rb ro
  go_enter Try.func120, Try.ntmps120
  go_wp2
  go_region
  all_goals go_wp2
  all_goals go_region
  all_goals go_wp2
  all_goals go_region
  all_goals go_wp2
  go_ret
  exact ⟨rfl, rfl⟩
set_option maxHeartbeats 1000000 in
theorem nextPowerOfTwo_x (n : Nat) (hn : n < 4611686018427387904) (w : World) :
    Calls Try.prog 119 #[.int .i64 n] w fun e w' => e = .returned (.int .u64 ((1 <<< bitsLen n : Nat) : Int)) ∧ w' = w := by
  have hLen : ∀ w, Calls Try.prog 106 #[.int .u64 (n : Int)] w fun e w' => e = .returned (.int .i64 (bitsLen n : Nat)) ∧ w' = w := fun w => by
    have h := bits_Len_x (n : Int) w (by omega) (by omega)
    rwa [Int.toNat_natCast, bitLen_eq _ (by omega)] at h
  have hk : bitsLen n ≤ 62 := (bitsLen_le_iff n 62).2 (by omega)
  have hp := wrap_two_pow (bitsLen n) hk
  have wr : IntKind.u64.wrap (n : Int) = n := by simp [IntKind.wrap, IntKind.bits, IntKind.signed]; omega
  go_enter Try.func119, Try.ntmps119
  go_wp2_with (first | (go_at_call 106; refine (hLen _).mono ?_; rintro e w' ⟨rfl, rfl⟩))
  go_ret
  exact ⟨rfl, rfl⟩
end Go.Proofs.Ytgchfbfgjanaiaa

namespace Go.Proofs.Ytgchfbfgjanaiaa
open Go.RowKit Go.Lib Go.Sort Sr
variable {X : SC}
set_option maxHeartbeats 8000000 in
set_option maxRecDepth 1000000 in
theorem breakPatternsCmpFunc_go_x (a L : Nat) (d : Array Nat) (w : World)
    (S : SX X d w) (hb : a + L ≤ d.size) (hsz : d.size < 4611686018427387904) (h8 : 8 ≤ L) :
    Calls Try.prog 110 #[.slice (some ⟨X.blk, 0, none⟩) d.size X.cap, .int .i64 a, .int .i64 ((a + L : Nat) : Int), .func (.func 78) #[.pointer (some ⟨X.b.p, 0, none⟩)] #[]] w fun e w' => e = .returned (.tuple #[]) ∧ SX X (breakPatterns d a (a + L)) w' := by
  have hcl0 := oneN.cells
  simp only [Value.cells] at hcl0
  have hst := oneN.store Try.prog
  rw [breakPatterns_eq d a L h8]
  obtain ⟨M, hM⟩ : ∃ M : Nat, M = 1 <<< bitsLen L := ⟨_, rfl⟩
  have hM1 : 1 ≤ M := by rw [hM, Nat.one_shiftLeft]; exact Nat.two_pow_pos _
  have hM2 : M ≤ 2 * L := by rw [hM, Nat.one_shiftLeft]; exact two_pow_bitsLen_le (by omega)
  have hNP : ∀ w, Calls Try.prog 119 #[.int .i64 (L : Int)] w fun e w' => e = .returned (.int .u64 (M : Int)) ∧ w' = w := by rw [hM]; exact fun w => nextPowerOfTwo_x L (by omega) w
  rw [← hM]
  clear hM
  have hLz : ((a : Int) + (L : Int) - (a : Int)) = (L : Int) := by omega
  have h8z : (8 : Int) ≤ (L : Int) := by omega
  have hne : w.heap.size ≠ X.blk := by have := S.blkW; omega
  have hle0 : X.w0.heap.size ≤ w.heap.size := S.le
  have S0 : Aside (SX X d w) := S
  clear S
  go_enter Try.func110, Try.ntmps110
  go_wp2_with (first | (go_at_call 119; refine (hNP _).mono ?_; rintro e w' ⟨rfl, rfl⟩))
  go_loopg [11] 3 (fun g1 vi wr => ∃ (t : Nat) (r : UInt64) (dk : Array Nat), vi = .int .i64 ((a : Int) + (L : Int) / 4 * 2 - 1 + (t : Int)) ∧ t ≤ 3 ∧ 3 - t ≤ g1 ∧ dk.size = d.size ∧ Aside (SX X dk wr) ∧
      wr.cell? ⟨w.heap.size, 0, none⟩ = some (.int .u64 (r.toNat : Int)) ∧ wr.frozen? ⟨w.heap.size, 0, none⟩ = false ∧
      Hid (bpRest a L M (a + L / 4 * 2 - 1) (3 - t) t (r, dk) = bpRest a L M (a + L / 4 * 2 - 1) 3 0 (UInt64.ofNat L, d)))
  case atStart =>
    refine ⟨0, UInt64.ofNat L, d, by simp, by omega, by omega, rfl, S0.out.alloc _, ?_, by simp, rfl⟩
    rw [show (UInt64.ofNat L).toNat = L from by simp; omega]
    simp
  case round =>
    clear S0
    obtain ⟨t, r, dk, rfl, ht, hg1, hds, S1, cR, fR, HR⟩ := hrel
    by_cases ht3 : t < 3
    · have hle : (a : Int) + (L : Int) / 4 * 2 - 1 + (t : Int) ≤ (a : Int) + (L : Int) / 4 * 2 + 1 := by omega
      obtain ⟨R0, hRr⟩ : ∃ R0 : Nat, R0 = r.toNat := ⟨_, rfl⟩
      have lR : R0 < 18446744073709551616 := by rw [hRr]; exact r.toNat_lt
      obtain ⟨R', hR'⟩ : ∃ R' : Nat, R' = xorNextN R0 := ⟨_, rfl⟩
      have lR' : R' < 18446744073709551616 := by rw [hR']; exact xorNextN_lt R0 lR
      obtain ⟨O, hO⟩ : ∃ O : Nat, O = R' &&& (M - 1) := ⟨_, rfl⟩
      have lO : O ≤ M - 1 := by rw [hO]; exact Nat.and_le_right
      have eAnd : bits .and .u64 (R' : Int) ((M : Int) - 1) = (O : Int) := by
        rw [show ((M : Int) - 1) = ((M - 1 : Nat) : Int) by omega, bits_and_u64_nat _ _ lR' (by omega), hO]
      rw [← hRr] at cR
      have hNext : Calls Try.prog 120 #[.pointer (some ⟨w.heap.size, 0, none⟩)] wr fun e w' => e = .returned (.int .u64 (R' : Int)) ∧ w' = (wr.setCell ⟨w.heap.size, 0, none⟩ (.int .u64 (R' : Int))).drewN 3 := by
        rw [hR']; exact xorshift_Next_x _ _ R0 lR wr cR fR
      have HN : Hid (R' = (xorNext r).toNat ∧ O = (xorNext r).toNat &&& (M - 1)) := by
        have e : R' = (xorNext r).toNat := by rw [hR', hRr, xorNext_toNat]
        exact ⟨e, by rw [hO, e]⟩
      clear hRr hR' hO
      have S2 : Aside (SX X dk ((wr.setCell ⟨w.heap.size, 0, none⟩ (.int .u64 (R' : Int))).drewN 3)) := (S1.out.setCell_new w.heap.size 0 (.int .u64 (R' : Int)) hle0).drewN 3
      have cR' : ((wr.setCell ⟨w.heap.size, 0, none⟩ (.int .u64 (R' : Int))).drewN 3).cell? ⟨w.heap.size, 0, none⟩ = some (.int .u64 (R' : Int)) := by
        rw [World.cell?_drewN]; exact World.cell?_setCell_same _ _ _ cR
      have fR' : ((wr.setCell ⟨w.heap.size, 0, none⟩ (.int .u64 (R' : Int))).drewN 3).frozen? ⟨w.heap.size, 0, none⟩ = false := by
        rw [World.frozen?_drewN]; simpa using fR
      generalize (wr.setCell ⟨w.heap.size, 0, none⟩ (.int .u64 (R' : Int))).drewN 3 = w2 at hNext S2 cR' fR'
      clear cR fR S1
      by_cases hLO : L ≤ O
      · -- other >= length: other -= length
        have hLOz : (L : Int) ≤ (O : Int) := by omega
        go_wp2_with (go_at_call 120; refine hNext.mono ?_; rintro e w' ⟨rfl, hw'⟩; obtain rfl : w2 = w' := hw'.symm)
        obtain ⟨iN1236, hiN1236⟩ : ∃ q, q = a + L / 4 * 2 - 1 + t := ⟨_, rfl⟩
        obtain ⟨jN1236, hjN1236⟩ : ∃ q, q = a + (O - L) := ⟨_, rfl⟩
        have ea1236 : ((a : Int) + (L : Int) / 4 * 2 - 1 + (t : Int)).toNat = iN1236 := by omega
        have pa1236 : (0 : Int) ≤ (a : Int) + (L : Int) / 4 * 2 - 1 + (t : Int) := by omega
        have ba1236 : (a : Int) + (L : Int) / 4 * 2 - 1 + (t : Int) < (d.size : Int) := by omega
        have ra1236 : IntKind.i64.wrap ((a : Int) + (L : Int) / 4 * 2 - 1 + (t : Int)) = (a : Int) + (L : Int) / 4 * 2 - 1 + (t : Int) := by rw [IntKind.wrap_i64]; omega
        have ec1236 : ((a : Int) + ((O : Int) - (L : Int))).toNat = jN1236 := by omega
        have pc1236 : (0 : Int) ≤ (a : Int) + ((O : Int) - (L : Int)) := by omega
        have bc1236 : (a : Int) + ((O : Int) - (L : Int)) < (d.size : Int) := by omega
        have rc1236 : IntKind.i64.wrap ((a : Int) + ((O : Int) - (L : Int))) = (a : Int) + ((O : Int) - (L : Int)) := by rw [IntKind.wrap_i64]; omega
        obtain ⟨x1236, hx1236⟩ : ∃ x, x = dk[a + L / 4 * 2 - 1 + t]! := ⟨_, rfl⟩
        obtain ⟨y1236, hy1236⟩ : ∃ x, x = dk[a + (O - L)]! := ⟨_, rfl⟩
        have S3 : Aside (SX X (swp dk (a + L / 4 * 2 - 1 + t) (a + (O - L))) ((w2.setCell ⟨X.blk, iN1236, none⟩ (encN y1236)).setCell ⟨X.blk, jN1236, none⟩ (encN x1236)).drew) := by rw [hiN1236, hjN1236, hx1236, hy1236]; exact S2.out.swapped (a + L / 4 * 2 - 1 + t) (a + (O - L)) (by omega) (by omega)
        have c1236a := S2.out.c1 (a + L / 4 * 2 - 1 + t) (by omega)
        have c1236b := S2.out.c1 (a + (O - L)) (by omega)
        have f1236a := S2.out.f1 (a + L / 4 * 2 - 1 + t) (by omega)
        have f1236b := S2.out.f1 (a + (O - L)) (by omega)
        obtain ⟨u1236, c1236c⟩ := S2.out.c2 (a + L / 4 * 2 - 1 + t) (a + (O - L)) (by omega) (by omega) (encN y1236)
        rw [← hjN1236, ← hiN1236] at c1236c
        rw [← hx1236, ← hiN1236] at c1236a
        rw [← hy1236, ← hjN1236] at c1236b
        rw [← hiN1236] at f1236a
        rw [← hjN1236] at f1236b
        clear S2 hx1236 hy1236 hiN1236 hjN1236
        go_wp2_with fail
        go_region
        clear c1236a c1236b c1236c f1236a f1236b
        have k1 := box_kept1 (W := w2) (blk := X.blk) hne cR' fR' iN1236 jN1236 (encN y1236) (encN x1236)
        generalize ((w2.setCell ⟨X.blk, iN1236, none⟩ (encN y1236)).setCell ⟨X.blk, jN1236, none⟩ (encN x1236)).drew = w3 at S3 k1 ⊢
        clear ea1236 ec1236
        go_wp2
        go_roundg (3 - (t + 1))
        case measure => omega
        case rel => exact ⟨t + 1, xorNext r, swp dk (a + L / 4 * 2 - 1 + t) (a + (O - L)), by congr 1; push_cast; omega, by omega, Nat.le_refl _, by rw [size_swp]; exact hds, S3, by rw [← HN.out.1]; exact k1.1, k1.2,
          (show Hid _ from by rw [← HR.out, bp_step a L M _ t r dk (O - L) ht3 (by rw [← HN.out.2, if_pos (by omega)])]; exact rfl)⟩
      · have hLOz : ¬ (L : Int) ≤ (O : Int) := by omega
        go_wp2_with (go_at_call 120; refine hNext.mono ?_; rintro e w' ⟨rfl, hw'⟩; obtain rfl : w2 = w' := hw'.symm)
        obtain ⟨iN1237, hiN1237⟩ : ∃ q, q = a + L / 4 * 2 - 1 + t := ⟨_, rfl⟩
        obtain ⟨jN1237, hjN1237⟩ : ∃ q, q = a + O := ⟨_, rfl⟩
        have ea1237 : ((a : Int) + (L : Int) / 4 * 2 - 1 + (t : Int)).toNat = iN1237 := by omega
        have pa1237 : (0 : Int) ≤ (a : Int) + (L : Int) / 4 * 2 - 1 + (t : Int) := by omega
        have ba1237 : (a : Int) + (L : Int) / 4 * 2 - 1 + (t : Int) < (d.size : Int) := by omega
        have ra1237 : IntKind.i64.wrap ((a : Int) + (L : Int) / 4 * 2 - 1 + (t : Int)) = (a : Int) + (L : Int) / 4 * 2 - 1 + (t : Int) := by rw [IntKind.wrap_i64]; omega
        have ec1237 : ((a : Int) + (O : Int)).toNat = jN1237 := by omega
        have pc1237 : (0 : Int) ≤ (a : Int) + (O : Int) := by omega
        have bc1237 : (a : Int) + (O : Int) < (d.size : Int) := by omega
        have rc1237 : IntKind.i64.wrap ((a : Int) + (O : Int)) = (a : Int) + (O : Int) := by rw [IntKind.wrap_i64]; omega
        obtain ⟨x1237, hx1237⟩ : ∃ x, x = dk[a + L / 4 * 2 - 1 + t]! := ⟨_, rfl⟩
        obtain ⟨y1237, hy1237⟩ : ∃ x, x = dk[a + O]! := ⟨_, rfl⟩
        have S3 : Aside (SX X (swp dk (a + L / 4 * 2 - 1 + t) (a + O)) ((w2.setCell ⟨X.blk, iN1237, none⟩ (encN y1237)).setCell ⟨X.blk, jN1237, none⟩ (encN x1237)).drew) := by rw [hiN1237, hjN1237, hx1237, hy1237]; exact S2.out.swapped (a + L / 4 * 2 - 1 + t) (a + O) (by omega) (by omega)
        have c1237a := S2.out.c1 (a + L / 4 * 2 - 1 + t) (by omega)
        have c1237b := S2.out.c1 (a + O) (by omega)
        have f1237a := S2.out.f1 (a + L / 4 * 2 - 1 + t) (by omega)
        have f1237b := S2.out.f1 (a + O) (by omega)
        obtain ⟨u1237, c1237c⟩ := S2.out.c2 (a + L / 4 * 2 - 1 + t) (a + O) (by omega) (by omega) (encN y1237)
        rw [← hjN1237, ← hiN1237] at c1237c
        rw [← hx1237, ← hiN1237] at c1237a
        rw [← hy1237, ← hjN1237] at c1237b
        rw [← hiN1237] at f1237a
        rw [← hjN1237] at f1237b
        clear S2 hx1237 hy1237 hiN1237 hjN1237
        go_wp2_with fail
        go_region
        clear c1237a c1237b c1237c f1237a f1237b
        have k1 := box_kept1 (W := w2) (blk := X.blk) hne cR' fR' iN1237 jN1237 (encN y1237) (encN x1237)
        generalize ((w2.setCell ⟨X.blk, iN1237, none⟩ (encN y1237)).setCell ⟨X.blk, jN1237, none⟩ (encN x1237)).drew = w3 at S3 k1 ⊢
        clear ea1237 ec1237
        go_wp2
        go_roundg (3 - (t + 1))
        case measure => omega
        case rel => exact ⟨t + 1, xorNext r, swp dk (a + L / 4 * 2 - 1 + t) (a + O), by congr 1; push_cast; omega, by omega, Nat.le_refl _, by rw [size_swp]; exact hds, S3, by rw [← HN.out.1]; exact k1.1, k1.2,
          (show Hid _ from by rw [← HR.out, bp_step a L M _ t r dk O ht3 (by rw [← HN.out.2, if_neg (by omega)])]; exact rfl)⟩
    · -- three rounds are done
      obtain rfl : t = 3 := by omega
      have hle : ¬ ((a : Int) + (L : Int) / 4 * 2 - 1 + ((3 : Nat) : Int) ≤ (a : Int) + (L : Int) / 4 * 2 + 1) := by omega
      go_wp2
      go_end0
      refine ⟨rfl, ?_⟩
      rw [← HR.out]
      exact S1.out
set_option maxHeartbeats 2000000 in
theorem breakPatternsCmpFunc_x (a b : Nat) (d : Array Nat) (w : World)
    (S : SX X d w) (hab : a ≤ b) (hb : b ≤ d.size) (hsz : d.size < 4611686018427387904) :
    Calls Try.prog 110 #[.slice (some ⟨X.blk, 0, none⟩) d.size X.cap, .int .i64 a, .int .i64 b, .func (.func 78) #[.pointer (some ⟨X.b.p, 0, none⟩)] #[]] w fun e w' => e = .returned (.tuple #[]) ∧ SX X (breakPatterns d a b) w' := by
  obtain ⟨L, rfl⟩ : ∃ L, b = a + L := ⟨b - a, by omega⟩
  by_cases h8 : 8 ≤ L
  · exact breakPatternsCmpFunc_go_x (X := X) a L d w S hb hsz h8
  · have hv : breakPatterns d a (a + L) = d := by unfold breakPatterns; simp only [Nat.add_sub_cancel_left]; rw [if_neg h8]
    rw [hv]
    have hcl0 := oneN.cells
    simp only [Value.cells] at hcl0
    have hst := oneN.store Try.prog
    have hLz : ((a : Int) + (L : Int) - (a : Int)) = (L : Int) := by omega
    have h8z : ¬ (8 : Int) ≤ (L : Int) := by omega
    have S0 : Aside (SX X d w) := S
    clear S
    go_enter Try.func110, Try.ntmps110
    go_wp2
    go_end0
    exact ⟨rfl, S0.out⟩
end Go.Proofs.Ytgchfbfgjanaiaa

namespace Go.Proofs.Ytgchfbfgjanaiaa
open Go.RowKit Go.Lib Go.Sort Sr
variable {X : SC}
set_option maxHeartbeats 4000000 in
set_option maxRecDepth 1000000 in
theorem order2CmpFunc_x (a b c s : Nat) (d : Array Nat) (W : World)
    (C : CX X d c s W) (ha : a < d.size) (hb : b < d.size) (hsz : d.size < 4611686018427387904) (hss : s < 4611686018427387904) :
    Calls Try.prog 123 #[.slice (some ⟨X.blk, 0, none⟩) d.size X.cap, .int .i64 a, .int .i64 b, .pointer (some ⟨c, 0, none⟩), .func (.func 78) #[.pointer (some ⟨X.b.p, 0, none⟩)] #[]] W fun e w' =>
      e = .returned (.tuple #[.int .i64 (order2 (ltOf X.cf) d a b s).1, .int .i64 (order2 (ltOf X.cf) d a b s).2.1]) ∧ CX X d c (order2 (ltOf X.cf) d a b s).2.2 w' := by
  have hcl0 := oneN.cells
  simp only [Value.cells] at hcl0
  have hst := oneN.store Try.prog
  have C1 : Aside (CX X d c s W) := C
  have S1 : Aside (SX X d W) := C.1
  clear C
  go_enter Try.func123, Try.ntmps123
  cases hlv : ltOf X.cf d[b]! d[a]! with
  | true =>
    have e2 : order2 (ltOf X.cf) d a b s = (b, a, s + 1) := by simp [order2, hlv]
    obtain ⟨iN1197, hiN1197⟩ : ∃ q, q = b := ⟨_, rfl⟩
    obtain ⟨jN1197, hjN1197⟩ : ∃ q, q = a := ⟨_, rfl⟩
    have ea1197 : ((b : Int)).toNat = iN1197 := by omega
    have pa1197 : (0 : Int) ≤ (b : Int) := by omega
    have ba1197 : (b : Int) < (d.size : Int) := by omega
    have ra1197 : IntKind.i64.wrap ((b : Int)) = (b : Int) := by rw [IntKind.wrap_i64]; omega
    have ec1197 : ((a : Int)).toNat = jN1197 := by omega
    have pc1197 : (0 : Int) ≤ (a : Int) := by omega
    have bc1197 : (a : Int) < (d.size : Int) := by omega
    have rc1197 : IntKind.i64.wrap ((a : Int)) = (a : Int) := by rw [IntKind.wrap_i64]; omega
    obtain ⟨x1197, hx1197⟩ : ∃ x, x = d[b]! := ⟨_, rfl⟩
    obtain ⟨y1197, hy1197⟩ : ∃ x, x = d[a]! := ⟨_, rfl⟩
    have l1197a := S1.out.drew.c1 (b) (by omega)
    have l1197b := S1.out.drew.c1 (a) (by omega)
    rw [← hx1197, ← hiN1197] at l1197a
    rw [← hy1197, ← hjN1197] at l1197b
    have hc1197 := S1.out.drew.cmp (b) (a) (by omega) (by omega)
    rw [← hx1197, ← hy1197] at hc1197
    have hv1197 : X.cf x1197 y1197 < 0 := by rw [hx1197, hy1197]; exact of_decide_eq_true hlv
    have hd1197 : decide (X.cf x1197 y1197 < 0) = true := decide_eq_true hv1197
    clear hx1197 hy1197 hiN1197 hjN1197
    go_wp2_with fail
    (refine wp_region_still_tail 9 (by kernel_rfl) (by kernel_rfl) ?_; simp only [List.take_succ_cons, List.take_zero, List.drop_succ_cons, List.drop_zero]; (repeat still_step); refine wpStill_nil ?_)
    change wpList _ _ _ _ _ W.drew
    refine wpList_gen fun Qq hQq => ?_
    go_wp2_with (go_at_call 78; go_must (refine hc1197.mono ?_; rintro e1q w2 ⟨rfl, S2q, E2q⟩; have S2 : Aside (SX X d w2) := S2q; have C2 : Aside (CX X d c s w2) := C1.out.drew.kept S2q E2q; obtain ⟨_, cc, cfz, _, _⟩ := C2.out; clear l1197a l1197b hc1197 S1 ea1197 ec1197 S2q E2q))
    obtain rfl := hQq.out
    clear hQq
    obtain ⟨_, cc, cfz, _, _⟩ := C2.out
    go_wp2
    go_ret2
    rw [e2]
    exact ⟨rfl, by have := C2.out.bump (s + 1); simpa using this⟩
  | false =>
    have e2 : order2 (ltOf X.cf) d a b s = (a, b, s) := by simp [order2, hlv]
    obtain ⟨iN1198, hiN1198⟩ : ∃ q, q = b := ⟨_, rfl⟩
    obtain ⟨jN1198, hjN1198⟩ : ∃ q, q = a := ⟨_, rfl⟩
    have ea1198 : ((b : Int)).toNat = iN1198 := by omega
    have pa1198 : (0 : Int) ≤ (b : Int) := by omega
    have ba1198 : (b : Int) < (d.size : Int) := by omega
    have ra1198 : IntKind.i64.wrap ((b : Int)) = (b : Int) := by rw [IntKind.wrap_i64]; omega
    have ec1198 : ((a : Int)).toNat = jN1198 := by omega
    have pc1198 : (0 : Int) ≤ (a : Int) := by omega
    have bc1198 : (a : Int) < (d.size : Int) := by omega
    have rc1198 : IntKind.i64.wrap ((a : Int)) = (a : Int) := by rw [IntKind.wrap_i64]; omega
    obtain ⟨x1198, hx1198⟩ : ∃ x, x = d[b]! := ⟨_, rfl⟩
    obtain ⟨y1198, hy1198⟩ : ∃ x, x = d[a]! := ⟨_, rfl⟩
    have l1198a := S1.out.drew.c1 (b) (by omega)
    have l1198b := S1.out.drew.c1 (a) (by omega)
    rw [← hx1198, ← hiN1198] at l1198a
    rw [← hy1198, ← hjN1198] at l1198b
    have hc1198 := S1.out.drew.cmp (b) (a) (by omega) (by omega)
    rw [← hx1198, ← hy1198] at hc1198
    have hv1198 : ¬ X.cf x1198 y1198 < 0 := by rw [hx1198, hy1198]; exact of_decide_eq_false hlv
    have hd1198 : decide (X.cf x1198 y1198 < 0) = false := decide_eq_false hv1198
    clear hx1198 hy1198 hiN1198 hjN1198
    go_wp2_with fail
    (refine wp_region_still_tail 9 (by kernel_rfl) (by kernel_rfl) ?_; simp only [List.take_succ_cons, List.take_zero, List.drop_succ_cons, List.drop_zero]; (repeat still_step); refine wpStill_nil ?_)
    change wpList _ _ _ _ _ W.drew
    refine wpList_gen fun Qq hQq => ?_
    go_wp2_with (go_at_call 78; go_must (refine hc1198.mono ?_; rintro e1q w2 ⟨rfl, S2q, E2q⟩; have S2 : Aside (SX X d w2) := S2q; have C2 : Aside (CX X d c s w2) := C1.out.drew.kept S2q E2q; obtain ⟨_, cc, cfz, _, _⟩ := C2.out; clear l1198a l1198b hc1198 S1 ea1198 ec1198 S2q E2q))
    obtain rfl := hQq.out
    clear hQq
    obtain ⟨_, cc, cfz, _, _⟩ := C2.out
    go_wp2
    go_ret2
    rw [e2]
    exact ⟨rfl, C2.out⟩
set_option maxHeartbeats 2000000 in
set_option maxRecDepth 100000 in
theorem medianCmpFunc_x (a b c' c s : Nat) (d : Array Nat) (W : World)
    (C : CX X d c s W) (ha : a < d.size) (hb : b < d.size) (hc : c' < d.size) (hsz : d.size < 4611686018427387904) (hss : s + 3 < 4611686018427387904) :
    Calls Try.prog 122 #[.slice (some ⟨X.blk, 0, none⟩) d.size X.cap, .int .i64 a, .int .i64 b, .int .i64 c', .pointer (some ⟨c, 0, none⟩), .func (.func 78) #[.pointer (some ⟨X.b.p, 0, none⟩)] #[]] W fun e w' =>
      e = .returned (.int .i64 (median (ltOf X.cf) d a b c' s).1) ∧ CX X d c (median (ltOf X.cf) d a b c' s).2 w' := by
  have hcl0 := oneN.cells
  simp only [Value.cells] at hcl0
  have hst := oneN.store Try.prog
  have l1 := order2_lt' (ltOf X.cf) d s ha hb
  have s1 := order2_swaps' (ltOf X.cf) d a b s
  have l2 := order2_lt' (ltOf X.cf) d (order2 (ltOf X.cf) d a b s).2.2 l1.2 hc
  have s2 := order2_swaps' (ltOf X.cf) d (order2 (ltOf X.cf) d a b s).2.1 c' (order2 (ltOf X.cf) d a b s).2.2
  have step := fun (W' : World) (t a' b' : Nat) (C' : CX X d c t W') (ha' : a' < d.size) (hb' : b' < d.size) (ht : t < 4611686018427387904) =>
    order2CmpFunc_x (X := X) a' b' c t d W' C' ha' hb' hsz ht
  go_enter Try.func122, Try.ntmps122
  go_wp2_with (go_at_call_of 123 (Value.int .i64 (b : Int)); refine (step _ _ _ _ C ha hb (by omega)).mono ?_; rintro e w1 ⟨rfl, C1⟩)
  go_wp2_with (go_at_call_of 123 (Value.int .i64 (c' : Int)); refine (step _ _ _ _ C1 l1.2 hc (by omega)).mono ?_; rintro e w2 ⟨rfl, C2⟩)
  go_wp2_with (go_at_call_of 123 (Value.int .i64 ((order2 (ltOf X.cf) d a b s).1 : Int)); refine (step _ _ _ _ C2 l1.1 l2.1 (by omega)).mono ?_; rintro e w3 ⟨rfl, C3⟩)
  go_ret
  exact ⟨rfl, C3⟩
set_option maxHeartbeats 2000000 in
set_option maxRecDepth 100000 in
theorem medianAdjacentCmpFunc_x (a c s : Nat) (d : Array Nat) (W : World)
    (C : CX X d c s W) (ha1 : 1 ≤ a) (ha2 : a + 1 < d.size) (hsz : d.size < 4611686018427387904) (hss : s + 3 < 4611686018427387904) :
    Calls Try.prog 121 #[.slice (some ⟨X.blk, 0, none⟩) d.size X.cap, .int .i64 a, .pointer (some ⟨c, 0, none⟩), .func (.func 78) #[.pointer (some ⟨X.b.p, 0, none⟩)] #[]] W fun e w' =>
      e = .returned (.int .i64 (medianAdjacent (ltOf X.cf) d a s).1) ∧ CX X d c (medianAdjacent (ltOf X.cf) d a s).2 w' := by
  have hcl0 := oneN.cells
  simp only [Value.cells] at hcl0
  have hst := oneN.store Try.prog
  have hm := medianCmpFunc_x (X := X) (a - 1) a (a + 1) c s d W C (by omega) (by omega) ha2 hsz hss
  rw [show ((a - 1 : Nat) : Int) = (a : Int) - 1 by omega, show ((a + 1 : Nat) : Int) = (a : Int) + 1 by omega] at hm
  go_enter Try.func121, Try.ntmps121
  go_wp2_with (go_at_call 122; refine hm.mono ?_; rintro e w1 ⟨rfl, C1⟩)
  go_ret
  exact ⟨rfl, C1⟩
end Go.Proofs.Ytgchfbfgjanaiaa

namespace Go.Proofs.Ytgchfbfgjanaiaa
open Go.RowKit Go.Lib Go.Sort Sr
variable {X : SC}
set_option maxHeartbeats 4000000 in
set_option maxRecDepth 100000 in
theorem choosePivotCmpFunc_x (a b : Nat) (d : Array Nat) (W : World)
    (S : SX X d W) (hab : a < b) (hb : b ≤ d.size) (hsz : d.size < 4611686018427387904) :
    Calls Try.prog 111 #[.slice (some ⟨X.blk, 0, none⟩) d.size X.cap, .int .i64 a, .int .i64 b, .func (.func 78) #[.pointer (some ⟨X.b.p, 0, none⟩)] #[]] W fun e w' =>
      e = .returned (.tuple #[.int .i64 (choosePivot (ltOf X.cf) d a b).1, .int .i64 (hintCode (choosePivot (ltOf X.cf) d a b).2)]) ∧ SX X d w' := by
  have MA := fun (W' : World) (x s : Nat) (C' : CX X d W.heap.size s W') (h1 : 1 ≤ x) (h2 : x + 1 < d.size) (h3 : s + 3 < 4611686018427387904) =>
    medianAdjacentCmpFunc_x (X := X) x W.heap.size s d W' C' h1 h2 hsz h3
  have MD := fun (W' : World) (x y z s : Nat) (C' : CX X d W.heap.size s W') (hx : x < d.size) (hy : y < d.size) (hz : z < d.size) (h3 : s + 3 < 4611686018427387904) =>
    medianCmpFunc_x (X := X) x y z W.heap.size s d W' C' hx hy hz hsz h3
  have C0 : CX X d W.heap.size 0 (W.alloc (.cells #[.int .i64 0] 3)) := CX.start S 3
  clear S
  have hcl0 := oneN.cells
  simp only [Value.cells] at hcl0
  have hst := oneN.store Try.prog
  rw [choosePivot_eq]
  obtain ⟨I, hI⟩ : ∃ I : Nat, I = a + (b - a) / 4 * 1 := ⟨_, rfl⟩
  obtain ⟨J, hJ⟩ : ∃ J : Nat, J = a + (b - a) / 4 * 2 := ⟨_, rfl⟩
  obtain ⟨K, hK⟩ : ∃ K : Nat, K = a + (b - a) / 4 * 3 := ⟨_, rfl⟩
  have eI : ((a : Int) + ((b : Int) - (a : Int)) / 4) = (I : Int) := by omega
  have eJ : ((a : Int) + ((b : Int) - (a : Int)) / 4 * 2) = (J : Int) := by omega
  have eK : ((a : Int) + ((b : Int) - (a : Int)) / 4 * 3) = (K : Int) := by omega
  by_cases h8 : b - a ≥ 8
  · by_cases h50 : b - a ≥ 50
    · -- THE NINTHER
      obtain ⟨i1, s1, h1⟩ : ∃ i1 s1, medianAdjacent (ltOf X.cf) d I 0 = (i1, s1) := ⟨_, _, rfl⟩
      obtain ⟨j1, s2, h2⟩ : ∃ j1 s2, medianAdjacent (ltOf X.cf) d J s1 = (j1, s2) := ⟨_, _, rfl⟩
      obtain ⟨k1, s3, h3⟩ : ∃ k1 s3, medianAdjacent (ltOf X.cf) d K s2 = (k1, s3) := ⟨_, _, rfl⟩
      obtain ⟨p, s, h4⟩ : ∃ p s, median (ltOf X.cf) d i1 j1 k1 s3 = (p, s) := ⟨_, _, rfl⟩
      have hraw : rawPivot (ltOf X.cf) d a b = (p, s) := by simp only [rawPivot, if_pos h8, if_pos h50, ← hI, ← hJ, ← hK, h1, h2, h3, h4]
      have m1 := medianAdjacent_mem (ltOf X.cf) d I 0; rw [h1] at m1
      have m2 := medianAdjacent_mem (ltOf X.cf) d J s1; rw [h2] at m2
      have m3 := medianAdjacent_mem (ltOf X.cf) d K s2; rw [h3] at m3
      have n1 := medianAdjacent_count (ltOf X.cf) d I 0; rw [h1] at n1
      have n2 := medianAdjacent_count (ltOf X.cf) d J s1; rw [h2] at n2
      have n3 := medianAdjacent_count (ltOf X.cf) d K s2; rw [h3] at n3
      simp only [] at m1 m2 m3 n1 n2 n3
      have c1 : Calls Try.prog 121 #[.slice (some ⟨X.blk, 0, none⟩) d.size X.cap, .int .i64 (I : Int), .pointer (some ⟨W.heap.size, 0, none⟩), .func (.func 78) #[.pointer (some ⟨X.b.p, 0, none⟩)] #[]] (W.alloc (.cells #[.int .i64 0] 3)) fun e w' => e = .returned (.int .i64 (i1 : Int)) ∧ CX X d W.heap.size s1 w' := by
        have h := MA _ I 0 C0 (by omega) (by omega) (by omega); rw [h1] at h; exact h
      have c2 : ∀ W', CX X d W.heap.size s1 W' → Calls Try.prog 121 #[.slice (some ⟨X.blk, 0, none⟩) d.size X.cap, .int .i64 (J : Int), .pointer (some ⟨W.heap.size, 0, none⟩), .func (.func 78) #[.pointer (some ⟨X.b.p, 0, none⟩)] #[]] W' fun e w' => e = .returned (.int .i64 (j1 : Int)) ∧ CX X d W.heap.size s2 w' := fun W' C' => by
        have h := MA W' J s1 C' (by omega) (by omega) (by omega); rw [h2] at h; exact h
      have c3 : ∀ W', CX X d W.heap.size s2 W' → Calls Try.prog 121 #[.slice (some ⟨X.blk, 0, none⟩) d.size X.cap, .int .i64 (K : Int), .pointer (some ⟨W.heap.size, 0, none⟩), .func (.func 78) #[.pointer (some ⟨X.b.p, 0, none⟩)] #[]] W' fun e w' => e = .returned (.int .i64 (k1 : Int)) ∧ CX X d W.heap.size s3 w' := fun W' C' => by
        have h := MA W' K s2 C' (by omega) (by omega) (by omega); rw [h3] at h; exact h
      have c4 : ∀ W', CX X d W.heap.size s3 W' → Calls Try.prog 122 #[.slice (some ⟨X.blk, 0, none⟩) d.size X.cap, .int .i64 (i1 : Int), .int .i64 (j1 : Int), .int .i64 (k1 : Int), .pointer (some ⟨W.heap.size, 0, none⟩), .func (.func 78) #[.pointer (some ⟨X.b.p, 0, none⟩)] #[]] W' fun e w' => e = .returned (.int .i64 (p : Int)) ∧ CX X d W.heap.size s w' := fun W' C' => by
        have h := MD W' i1 j1 k1 s3 C' (by omega) (by omega) (by omega) (by omega); rw [h4] at h; exact h
      rw [hraw]
      obtain ⟨Hc, hHc⟩ : ∃ Hc : Int, Hc = hintCode (hintOf s) := ⟨_, rfl⟩
      have hh0 : s = 0 → Hc = 1 := fun h => by rw [hHc, h]; rfl
      have hh12 : s = 12 → Hc = 2 := fun h => by rw [hHc, h]; rfl
      have hhx : s ≠ 0 → s ≠ 12 → Hc = 0 := fun h1 h2 => by rw [hHc]; unfold hintOf; rw [if_neg h1, if_neg h2]; rfl
      show Calls Try.prog 111 _ W fun e w' => e = .returned (.tuple #[.int .i64 (p : Int), .int .i64 (hintCode (hintOf s))]) ∧ SX X d w'
      rw [← hHc]
      clear hHc hraw
      clear h1 h2 h3 h4 MA MD hI hJ hK m1 m2 m3 C0
      go_enter Try.func111, Try.ntmps111
      go_wp2_with (go_at_call_of 121 (Value.int .i64 (I : Int)); refine c1.mono ?_; rintro e w1 ⟨rfl, C1⟩)
      go_wp2_with (go_at_call_of 121 (Value.int .i64 (J : Int)); refine (c2 _ C1).mono ?_; rintro e w2 ⟨rfl, C2⟩)
      go_wp2_with (go_at_call_of 121 (Value.int .i64 (K : Int)); refine (c3 _ C2).mono ?_; rintro e w3 ⟨rfl, C3⟩)
      go_wp2_with (go_at_call 122; refine (c4 _ C3).mono ?_; rintro e w4 ⟨rfl, S4, cc, cfz, _, _⟩)
      all_goals
        go_ret2
        refine ⟨?_, S4⟩
        first
          | (have e0 : (s : Int) = 0 := of_beq_int (by assumption)
             rw [hh0 (by omega)]; rfl)
          | (have e1 : (s : Int) = 12 := of_beq_int (by assumption)
             rw [hh12 (by omega)]; rfl)
          | (have e0 : (s : Int) ≠ 0 := of_bne_int (by assumption)
             have e1 : (s : Int) ≠ 12 := of_bne_int (by assumption)
             rw [hhx (by omega) (by omega)]; rfl)
          | (rw [hh0 (by omega)]; rfl)
    · -- THE MEDIAN OF THREE
      obtain ⟨p, s, h4⟩ : ∃ p s, median (ltOf X.cf) d I J K 0 = (p, s) := ⟨_, _, rfl⟩
      have hraw : rawPivot (ltOf X.cf) d a b = (p, s) := by simp only [rawPivot, if_pos h8, if_neg h50, ← hI, ← hJ, ← hK, h4]
      have c4 : Calls Try.prog 122 #[.slice (some ⟨X.blk, 0, none⟩) d.size X.cap, .int .i64 (I : Int), .int .i64 (J : Int), .int .i64 (K : Int), .pointer (some ⟨W.heap.size, 0, none⟩), .func (.func 78) #[.pointer (some ⟨X.b.p, 0, none⟩)] #[]] (W.alloc (.cells #[.int .i64 0] 3)) fun e w' => e = .returned (.int .i64 (p : Int)) ∧ CX X d W.heap.size s w' := by
        have h := MD _ I J K 0 C0 (by omega) (by omega) (by omega) (by omega); rw [h4] at h; exact h
      rw [hraw]
      obtain ⟨Hc, hHc⟩ : ∃ Hc : Int, Hc = hintCode (hintOf s) := ⟨_, rfl⟩
      have hh0 : s = 0 → Hc = 1 := fun h => by rw [hHc, h]; rfl
      have hh12 : s = 12 → Hc = 2 := fun h => by rw [hHc, h]; rfl
      have hhx : s ≠ 0 → s ≠ 12 → Hc = 0 := fun h1 h2 => by rw [hHc]; unfold hintOf; rw [if_neg h1, if_neg h2]; rfl
      show Calls Try.prog 111 _ W fun e w' => e = .returned (.tuple #[.int .i64 (p : Int), .int .i64 (hintCode (hintOf s))]) ∧ SX X d w'
      rw [← hHc]
      clear hHc hraw
      clear h4 MA MD hI hJ hK C0
      go_enter Try.func111, Try.ntmps111
      go_wp2_with (go_at_call 122; refine c4.mono ?_; rintro e w4 ⟨rfl, S4, cc, cfz, _, _⟩)
      all_goals
        go_ret2
        refine ⟨?_, S4⟩
        first
          | (have e0 : (s : Int) = 0 := of_beq_int (by assumption)
             rw [hh0 (by omega)]; rfl)
          | (have e1 : (s : Int) = 12 := of_beq_int (by assumption)
             rw [hh12 (by omega)]; rfl)
          | (have e0 : (s : Int) ≠ 0 := of_bne_int (by assumption)
             have e1 : (s : Int) ≠ 12 := of_bne_int (by assumption)
             rw [hhx (by omega) (by omega)]; rfl)
          | (rw [hh0 (by omega)]; rfl)
  · -- FEWER THAN EIGHT: the middle; nothing is counted
    obtain ⟨p, hp⟩ : ∃ p : Nat, p = J := ⟨_, rfl⟩
    obtain ⟨s, hs0⟩ : ∃ s : Nat, s = 0 := ⟨_, rfl⟩
    have hraw : rawPivot (ltOf X.cf) d a b = (p, s) := by simp only [rawPivot, if_neg h8, ← hJ, hp, hs0]
    rw [hraw]
    obtain ⟨Hc, hHc⟩ : ∃ Hc : Int, Hc = hintCode (hintOf s) := ⟨_, rfl⟩
    have hh0 : s = 0 → Hc = 1 := fun h => by rw [hHc, h]; rfl
    have hh12 : s = 12 → Hc = 2 := fun h => by rw [hHc, h]; rfl
    have hhx : s ≠ 0 → s ≠ 12 → Hc = 0 := fun h1 h2 => by rw [hHc]; unfold hintOf; rw [if_neg h1, if_neg h2]; rfl
    show Calls Try.prog 111 _ W fun e w' => e = .returned (.tuple #[.int .i64 (p : Int), .int .i64 (hintCode (hintOf s))]) ∧ SX X d w'
    rw [← hHc]
    clear hHc hraw
    subst hp
    clear MA MD hI hJ hK
    have S4 := C0.1
    clear C0
    go_enter Try.func111, Try.ntmps111
    go_wp2
    all_goals
      go_ret2
      refine ⟨?_, S4⟩
      first
        | (have e0 : (s : Int) = 0 := of_beq_int (by assumption)
           rw [hh0 (by omega)]; rfl)
        | (have e1 : (s : Int) = 12 := of_beq_int (by assumption)
           rw [hh12 (by omega)]; rfl)
        | (have e0 : (s : Int) ≠ 0 := of_bne_int (by assumption)
           have e1 : (s : Int) ≠ 12 := of_bne_int (by assumption)
           rw [hhx (by omega) (by omega)]; rfl)
        | (rw [hh0 (by omega)]; rfl)
end Go.Proofs.Ytgchfbfgjanaiaa

namespace Go.Proofs.Ytgchfbfgjanaiaa
open Go.RowKit Go.Lib Go.Sort Sr
variable {X : SC}
set_option maxHeartbeats 4000000 in
set_option maxRecDepth 1000000 in
theorem reverseRangeCmpFunc_x (a b : Nat) (d : Array Nat) (w : World)
    (S : SX X d w) (hab : a ≤ b) (hb : b ≤ d.size) (hsz : d.size < 4611686018427387904) :
    Calls Try.prog 112 #[.slice (some ⟨X.blk, 0, none⟩) d.size X.cap, .int .i64 a, .int .i64 b, .func (.func 78) #[.pointer (some ⟨X.b.p, 0, none⟩)] #[]] w fun e w' => e = .returned (.tuple #[]) ∧ SX X (reverseRange d a b) w' := by
  have hcl0 := oneN.cells
  simp only [Value.cells] at hcl0
  have hst := oneN.store Try.prog
  have S0 : Aside (SX X d w) := S
  clear S
  go_enter Try.func112, Try.ntmps112
  go_wp2
  go_loopg [8, 9] (b - a) (fun kx s8 s9 wr => ∃ (i jn : Nat) (jz : Int) (dk : Array Nat), s8 = .int .i64 i ∧ s9 = .int .i64 jz ∧ ((i : Int) < jz → jz = jn ∧ jn < d.size) ∧ (¬ (i : Int) < jz → ¬ i < jn) ∧ jn - i ≤ kx ∧
    dk.size = d.size ∧ Aside (SX X dk wr) ∧ reverseLoop i jn dk = reverseLoop a (b - 1) d)
  case atStart => exact ⟨a, b - 1, (b : Int) - 1, d, rfl, rfl, fun h => ⟨by omega, by omega⟩, fun h => by omega, by omega, rfl, S0, rfl⟩
  case round =>
    clear S0
    obtain ⟨i, jn, jz, dk, rfl, rfl, h1, h2, hkx, hds, S1, heq⟩ := hrel
    by_cases hlt : (i : Int) < jz
    · obtain ⟨rfl, hjn⟩ := h1 hlt
      have hij : i < jn := by omega
      clear h1 h2
      go_wp2_with fail
      obtain ⟨iN1199, hiN1199⟩ : ∃ q, q = i := ⟨_, rfl⟩
      obtain ⟨jN1199, hjN1199⟩ : ∃ q, q = jn := ⟨_, rfl⟩
      have ea1199 : ((i : Int)).toNat = iN1199 := by omega
      have pa1199 : (0 : Int) ≤ (i : Int) := by omega
      have ba1199 : (i : Int) < (d.size : Int) := by omega
      have ra1199 : IntKind.i64.wrap ((i : Int)) = (i : Int) := by rw [IntKind.wrap_i64]; omega
      have ec1199 : ((jn : Int)).toNat = jN1199 := by omega
      have pc1199 : (0 : Int) ≤ (jn : Int) := by omega
      have bc1199 : (jn : Int) < (d.size : Int) := by omega
      have rc1199 : IntKind.i64.wrap ((jn : Int)) = (jn : Int) := by rw [IntKind.wrap_i64]; omega
      obtain ⟨x1199, hx1199⟩ : ∃ x, x = dk[i]! := ⟨_, rfl⟩
      obtain ⟨y1199, hy1199⟩ : ∃ x, x = dk[jn]! := ⟨_, rfl⟩
      have S2 : Aside (SX X (swp dk (i) (jn)) ((wr.setCell ⟨X.blk, iN1199, none⟩ (encN y1199)).setCell ⟨X.blk, jN1199, none⟩ (encN x1199)).drew) := by rw [hiN1199, hjN1199, hx1199, hy1199]; exact S1.out.swapped (i) (jn) (by omega) (by omega)
      have c1199a := S1.out.c1 (i) (by omega)
      have c1199b := S1.out.c1 (jn) (by omega)
      have f1199a := S1.out.f1 (i) (by omega)
      have f1199b := S1.out.f1 (jn) (by omega)
      obtain ⟨u1199, c1199c⟩ := S1.out.c2 (i) (jn) (by omega) (by omega) (encN y1199)
      rw [← hjN1199, ← hiN1199] at c1199c
      rw [← hx1199, ← hiN1199] at c1199a
      rw [← hy1199, ← hjN1199] at c1199b
      rw [← hiN1199] at f1199a
      rw [← hjN1199] at f1199b
      clear S1 hx1199 hy1199 hiN1199 hjN1199
      go_wp2_with fail
      go_region
      clear c1199a c1199b c1199c f1199a f1199b
      generalize ((wr.setCell ⟨X.blk, iN1199, none⟩ (encN y1199)).setCell ⟨X.blk, jN1199, none⟩ (encN x1199)).drew = w2 at S2 ⊢
      clear ea1199 ec1199
      go_wp2
      go_roundg (jn - 1 - (i + 1))
      case measure => omega
      case rel =>
        rw [reverseLoop, if_pos hij] at heq
        exact ⟨i + 1, jn - 1, (jn : Int) - 1, swp dk i jn, by simp, rfl, fun h => ⟨by omega, by omega⟩, fun h => by omega, Nat.le_refl _, by rw [size_swp]; exact hds, S2, heq⟩
    · have hnot := h2 hlt
      go_wp2
      go_end0
      refine ⟨rfl, ?_⟩
      rw [reverseLoop, if_neg hnot] at heq
      rw [reverseRange, ← heq]
      exact S1.out
end Go.Proofs.Ytgchfbfgjanaiaa
