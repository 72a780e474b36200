/- sandreckonerlaw01.counted -/
import Derived.Test.YtgchfbfgjanaiaaLwBinaryRx01
import Derived.Test.YtgchfbfgjanaiaaLwBinaryRx02
import Derived.Deep.LoopGhost
import Derived.Deep.DeepCutAuto
import Derived.Deep.CutRange
import Derived.StillTailTactics
import Derived.BigRegion
set_option linter.unusedSimpArgs false
set_option linter.unusedVariables false
namespace Go.Proofs.Ytgchfbfgjanaiaa
open Go.RowKit Sr

/-- counting under way: the factors, the terms -/
structure CT (w0 W : World) (F : List Int) (L : List (Bool × Int)) (fv lv : Value) (nf nl : Nat) : Prop where
  below : Below w0.heap.size w0 W
  f : W.ownsRow w0.heap.size 3 1 fv nf (zrow F)
  l : ∃ ts, TermsOwn W w0.heap.size lv L ts
  nf : nf = F.length
  nl : nl = L.length

theorem CT.adv {w0 W W' : World} {F : List Int} {L : List (Bool × Int)} {fv lv : Value} {nf nl : Nat} (h : CT w0 W F L fv lv nf nl) (e : Below W.heap.size W W') : CT w0 W' F L fv lv nf nl := by
  obtain ⟨ts, hl⟩ := h.l
  exact ⟨below_chain h.below e, own_ext h.f (Ext.of_below (M := noB) e) (fun _ _ h => h), ⟨ts, hl.below e⟩, h.nf, h.nl⟩

theorem CT.apart {w0 W : World} {F : List Int} {L : List (Bool × Int)} {fv lv : Value} {nf nl : Nat} (h : CT w0 W F L fv lv nf nl) : ∀ q, fv.ownBlock = some q → lv.ownBlock = some q → False := fun q h1 h2 => by
  obtain ⟨ts, hl⟩ := h.l
  obtain ⟨c1, z1, e1⟩ := own_typ5 h.f h1
  obtain ⟨c2, z2, e2⟩ := own_typ5 hl.own h2
  rw [e1] at e2
  simp only [Option.some.injEq, Obj.cells.injEq] at e2
  exact absurd e2.2.1 (by decide)

theorem CT.pushF {w0 W W1 W' : World} {F : List Int} {L : List (Bool × Int)} {fv fv' lv : Value} {nf nl : Nat} {z : Int} (h : CT w0 W F L fv lv nf nl) (e : Below W.heap.size W W1) (hg : W1.grownBy W' fv.ownBlock) (ho : W'.ownsRow w0.heap.size 3 1 fv' (nf + 1) (zrow F ++ [.int .i64 z])) : CT w0 W' (F ++ [z]) L fv' lv (nf + 1) nl := by
  have h1 := h.adv e
  obtain ⟨ts, hl⟩ := h1.l
  have hx : Ext (fun q => fv.ownBlock = some q) W1 W' := ⟨hg.os, hg.tape, hg.output, hg.size, fun q hq hn => hg.block q hq fun e => hn e.symm⟩
  exact ⟨h1.below.grown hg h1.below.size (fun q hq => own_ge h1.f q hq), by rw [zrow_append]; exact ho, ⟨ts, hl.keep hx (own_apart h1.f (by decide)) fun q hq hk => h1.apart q hk hq⟩, by rw [List.length_append, h.nf]; rfl, h.nl⟩

theorem CT.pushL {w0 W W1 W' : World} {F : List Int} {L : List (Bool × Int)} {fv lv lv' : Value} {nf nl : Nat} {m : Bool} {p : Option Addr} {x : Int} {ts : List (Bool × Option Addr)} (h : CT w0 W F L fv lv nf nl) (hts : TermsOwn W w0.heap.size lv L ts) (e : Below W.heap.size W W1) (hx : NumIs W (.agg #[.pointer p]) x) (hg : W1.grownBy W' lv.ownBlock) (ho : W'.ownsRow w0.heap.size 47 2 lv' (nl + 1) (trow ts ++ [.bool m, .pointer p])) : CT w0 W' F (L ++ [(m, x)]) fv lv' nf (nl + 1) := by
  have h1 := h.adv e
  have hx2 : Ext (fun q => lv.ownBlock = some q) W1 W' := ⟨hg.os, hg.tape, hg.output, hg.size, fun q hq hn => hg.block q hq fun e => hn e.symm⟩
  exact ⟨h1.below.grown hg h1.below.size (fun q hq => own_ge hts.own q hq), own_ext h1.f hx2 fun q hq hk => h1.apart q hq hk, ⟨_, hts.push e h.nl (hx.below e) hg ho⟩, h.nf, by rw [List.length_append, h.nl]; rfl⟩

/-- counting under way, and what it has come to -/
def CntS (w0 W : World) (A : List Int) (back : Bool) (i k : Nat) (y n : Int) (fv lv : Value) (nf nl : Nat) : Prop :=
  ∃ L, CT w0 W ((cntF A).take nf) L fv lv nf nl ∧ (∀ t ∈ L, 0 ≤ t.2) ∧ termsV L = cntV A back i + 2 ^ k * (y - n) ∧ (nl : Int) + n.natAbs ≤ (mostC A.length - 1) * (i : Int) + y.natAbs

theorem CntS.adv {w0 W W' : World} {A : List Int} {back : Bool} {i k : Nat} {y n : Int} {fv lv : Value} {nf nl : Nat} (h : CntS w0 W A back i k y n fv lv nf nl) (e : Below W.heap.size W W') : CntS w0 W' A back i k y n fv lv nf nl := by
  obtain ⟨L, h1, h2⟩ := h
  exact ⟨L, h1.adv e, h2⟩

theorem termsV_push (L : List (Bool × Int)) (m : Bool) (k : Nat) : termsV (L ++ [(m, (k : Int))]) = termsV L + tv (m, k) := by
  unfold termsV termsT
  rw [List.map_append, val_append]
  simp [val]

/-- one term more -/
theorem CntS.term {w0 W W1 W' : World} {A : List Int} {back : Bool} {i k : Nat} {y n n' : Int} {m : Bool} {fv lv lv' : Value} {nf nl : Nat} {p : Option Addr} {L : List (Bool × Int)} {ts : List (Bool × Option Addr)}
    (h1 : CT w0 W ((cntF A).take nf) L fv lv nf nl) (h2 : ∀ t ∈ L, 0 ≤ t.2) (h3 : termsV L = cntV A back i + 2 ^ k * (y - n)) (h4 : (nl : Int) + n.natAbs ≤ (mostC A.length - 1) * (i : Int) + y.natAbs)
    (hts : TermsOwn W w0.heap.size lv L ts) (e : Below W.heap.size W W1) (hx : NumIs W (.agg #[.pointer p]) (k : Int)) (hg : W1.grownBy W' lv.ownBlock) (ho : W'.ownsRow w0.heap.size 47 2 lv' (nl + 1) (trow ts ++ [.bool m, .pointer p]))
    (hn : (n < 0 ∧ m = true ∧ n' = n + 1) ∨ (0 < n ∧ m = false ∧ n' = n - 1)) : CntS w0 W' A back i k y n' fv lv' nf (nl + 1) := by
  refine ⟨_, h1.pushL hts e hx hg ho, fun t ht => ?_, ?_, ?_⟩
  · rcases List.mem_append.1 ht with ht | ht
    · exact h2 t ht
    · obtain rfl := List.mem_singleton.1 ht
      simp only; omega
  · rw [termsV_push, h3]
    rcases hn with ⟨h0, rfl, rfl⟩ | ⟨h0, rfl, rfl⟩
    · have e1 : tv (true, k) = -2 ^ k := by simp [tv]
      rw [e1, show y - (n + 1) = y - n - 1 by omega, Int.mul_sub (2 ^ k) (y - n), Int.mul_one]
      omega
    · have e1 : tv (false, k) = 2 ^ k := by simp [tv]
      rw [e1, show y - (n - 1) = y - n + 1 by omega, Int.mul_add (2 ^ k) (y - n), Int.mul_one]
      omega
  · rcases hn with ⟨h0, rfl, rfl⟩ | ⟨h0, rfl, rfl⟩
    · push_cast; omega
    · push_cast; omega

set_option maxRecDepth 100000 in
set_option maxHeartbeats 4000000 in
theorem lawCounted_any {w : World} {v : Value} {A : List Int} {back : Bool} (h : I8At w v A) (hA : A.length ≤ 590) :
    Calls Try.prog 30 #[.agg #[v], .bool back] w fun e w' => ∃ a c p, e = .returned (.tuple #[.slice a A.length c, .agg #[.pointer p], .int .i64 0]) ∧
      w'.ownsRow w.heap.size 3 1 (.slice a A.length c) A.length (zrow (cntF A)) ∧ NumIs w' (.agg #[.pointer p]) (vl (cntF A)) ∧ Below w.heap.size w w' := by
  obtain ⟨aa, ac, rfl, hac, hAz, hAc⟩ := h
  obtain ⟨N, hN⟩ : ∃ N, N = A.length := ⟨_, rfl⟩
  obtain ⟨M, hM⟩ : ∃ M, M = mostC A.length := ⟨_, rfl⟩
  have hMN : (160 < N ∧ M = 2) ∨ (N ≤ 160 ∧ M = 5) := by rw [hM, hN]; exact mostC_cases _
  rw [← hN] at hac hA ⊢
  obtain ⟨W2, hW2⟩ : ∃ W2, W2 = (w.alloc (.cells #[.slice aa N ac] 56)).alloc (.cells #[.pointer none] 30) := ⟨_, rfl⟩
  obtain ⟨W4, hW4⟩ : ∃ W4, W4 = (W2.alloc (.cells #[] 3)).alloc (.cells #[] 47) := ⟨_, rfl⟩
  have s2 : W2.heap.size = w.heap.size + 1 + 1 := by rw [hW2]; simp
  have hb2 : Below w.heap.size w W2 := by rw [hW2]; exact below_al (below_al (Below.refl _ _))
  have hb4 : Below W2.heap.size W2 W4 := by rw [hW4]; exact below_al (below_al (Below.refl _ _))
  have k0 : W2.heap[w.heap.size]? = some (.cells #[.slice aa N ac] 56 (0, 0)) := by rw [hW2]; exact blk_alloc_old (blk_alloc _ _) _
  have k1 : W2.heap[w.heap.size + 1]? = some (.cells #[.pointer none] 30 (0, 0)) := by
    rw [hW2]
    have := blk_alloc (w.alloc (.cells #[.slice aa N ac] 56)) (.cells #[.pointer none] 30)
    simpa using this
  have hct : CntS W2 W4 A back 0 0 0 0 (.slice (some ⟨w.heap.size + 1 + 1, 0, none⟩) 0 0) (.slice (some ⟨w.heap.size + 1 + 1 + 1, 0, none⟩) 0 0) 0 0 := by
    refine ⟨[], ⟨hb4, ?_, ⟨[], ?_, rfl, fun i t s ht _ => by simp at ht⟩, by simp, rfl⟩, fun t ht => by simp at ht, by rw [cntV_zero]; rfl, by simp⟩
    · have := (World.ownsRow_lit (base := W2.heap.size) (e := 3) (size := 1) W2 #[] 0 (Nat.le_refl _) (by decide) rfl).alloc (.cells #[] 47)
      rw [← hW4, s2] at this
      simpa [zrow, s2] using this
    · have := World.ownsRow_lit (base := W2.heap.size) (e := 47) (size := 2) (W2.alloc (.cells #[] 3)) #[] 0 (by simp) (by decide) rfl
      rw [← hW4] at this
      simpa [trow, s2] using this
  have H := Sealed.mk (And.intro hAz (And.intro hAc (And.intro hN (And.intro hM (And.intro hb2 (And.intro k0 (And.intro k1 (And.intro s2 hb4))))))))
  have HMN := Sealed.mk hMN
  have R0 := Sealed.mk hct
  clear hAz hAc hN hM hb2 hb4 k0 k1 hct hMN s2
  go_enter Try.func30, Try.ntmps30
  go_upto_region 4 with fail
  rw [← hW2, ← hW4]
  clear hW2 hW4
  have hbox : ∀ W, Below W2.heap.size W2 W → W.cell? ⟨w.heap.size, 0, none⟩ = some (.slice aa N ac) := fun W hb => (cell_same (hb.block _ (lt_of_blk H.out.2.2.2.2.2.1)) 0).trans ((cell_of_blk H.out.2.2.2.2.2.1 0).trans rfl)
  have HBOX := Sealed.mk hbox; clear hbox
  have g0 := HBOX.out W4 H.out.2.2.2.2.2.2.2.2
  go_upto_if 20 with fail
  go_cut [9] from 20 to 20 (fun tv wx => tv = .int .i8 M ∧ wx = W4)
  case first =>
    rcases HMN.out with ⟨h1, h2⟩ | ⟨h1, h2⟩
    · have d1 : decide ((160 : Int) < (N : Int)) = true := decide_eq_true (by omega)
      have d2 : decide (160 < N) = true := decide_eq_true (by omega)
      have d3 : 160 < N := by omega
      have HH := Sealed.mk h2
      clear h1 h2
      go_wp2_with fail
      go_meet
      case rel => exact ⟨by rw [HH.out], rfl⟩
    · have d1 : decide ((160 : Int) < (N : Int)) = false := decide_eq_false (by omega)
      have d2 : decide (160 < N) = false := decide_eq_false (by omega)
      have d3 : ¬ 160 < N := by omega
      have HH := Sealed.mk h2
      clear h1 h2
      go_wp2_with fail
      go_meet
      case rel => exact ⟨by rw [HH.out], rfl⟩
  case rest =>
    obtain ⟨rfl, rfl⟩ := hcut
    obtain ⟨W5, hW5⟩ : ∃ W5, W5 = wc := ⟨_, rfl⟩
    rw [← hW5] at H R0 g0 ⊢
    clear hW5
    have hM0 : (M == 0) = false := by have := HMN.out; simp; omega
    have hM5 : 2 ≤ M ∧ M ≤ 5 := by have := HMN.out; omega
    go_wp2_with fail
    go_loopg [7, 8, 10] N (fun jj fv lv iv W => ∃ (i nl : Nat) (fa la : Option Addr) (fc lc : Nat), jj = N - i ∧ i ≤ N ∧ iv = .int .i64 (i : Int) ∧ fv = .slice fa i fc ∧ lv = .slice la nl lc ∧ Sealed (CntS W2 W A back i 0 0 0 (.slice fa i fc) (.slice la nl lc) i nl))
    case atStart => exact ⟨0, 0, _, _, 0, 0, rfl, Nat.zero_le _, rfl, rfl, rfl, R0⟩
    case round =>
      obtain ⟨i, nl, fa, la, fc, lc, rfl, hi, rfl, rfl, rfl, HK⟩ := hrel
      have hbw : Below W2.heap.size W2 wr := HK.out.choose_spec.1.below
      have g1 := HBOX.out wr hbw
      by_cases hin : i < N
      · obtain ⟨k, hk⟩ : ∃ k, k = cntK N back i := ⟨_, rfl⟩
        have hkN : k < N := by rw [hk]; exact cntK_lt back hin
        have hbk : back = true → (N : Int) - 1 - (i : Int) = (k : Int) := fun hb => by rw [hk, hb]; unfold cntK; rw [if_pos rfl]; omega
        have hbk2 : back = false → i = k := fun hb => by rw [hk, hb]; rfl
        have hi9 : -1000000000000 ≤ (i : Int) + 1 ∧ (i : Int) + 1 ≤ 1000000000000 := by omega
        obtain ⟨zk, hzk⟩ : ∃ z, A[k]? = some z := ⟨_, List.getElem?_eq_getElem (by have := H.out.2.2.1; omega)⟩
        obtain ⟨zi, hzi⟩ : ∃ z, A[i]? = some z := ⟨_, List.getElem?_eq_getElem (by have := H.out.2.2.1; omega)⟩
        obtain ⟨b, o, rfl, hblt, hcl⟩ := H.out.2.1 (by intro e; rw [e] at hzk; simp at hzk)
        have hbw2 := below_chain H.out.2.2.2.2.1 hbw
        have c1 := (cell_same (hbw2.block b hblt) _).trans (hcl k zk hzk)
        have c2 := (cell_same (hbw2.block b hblt) _).trans (hcl i zi hzi)
        have hyk := tmod_in (z := zk) (m := M) (by omega)
        have hyi := tmod_in (z := zi) (m := M) (by omega)
        obtain ⟨y, hy⟩ : ∃ y, y = zk.tmod M := ⟨_, rfl⟩
        obtain ⟨yi, hyi2⟩ : ∃ y, y = zi.tmod M := ⟨_, rfl⟩
        rw [← hy] at hyk
        rw [← hyi2] at hyi
        have hzkB := H.out.1 zk (List.mem_of_getElem? hzk)
        have hziB := H.out.1 zi (List.mem_of_getElem? hzi)
        have hin' : (i : Int) < (N : Int) := by omega
        have hkN' : (k : Int) < (N : Int) := by omega
        have HZ := Sealed.mk (And.intro hzk (And.intro hzi (And.intro hy (And.intro hyi2 (And.intro hk hkN)))))
        have HBK := Sealed.mk (And.intro hbk hbk2)
        clear hbk hbk2 hzk hzi hy hyi2 hk hbw2 hcl
        have hiw : wrap64 ((i : Int) + 1) = (i : Int) + 1 := w64_in hi9.1 hi9.2
        clear hi9
        go_upto_if 29 with fail
        go_cut [11] from 30 to 35 (fun kv wx => kv = .int .i64 (k : Int) ∧ wx = wr)
        case first =>
          cases back with
          | false =>
            have E := Sealed.mk (HBK.out.2 rfl)
            go_wp2_with fail
            go_meet
            case rel => exact ⟨by rw [E.out], rfl⟩
          | true =>
            have E := Sealed.mk (HBK.out.1 rfl)
            have b1 : -1000000000000 ≤ (N : Int) - 1 ∧ (N : Int) - 1 ≤ 1000000000000 := by clear hiw; omega
            have b2 : -1000000000000 ≤ (N : Int) - 1 - (i : Int) ∧ (N : Int) - 1 - (i : Int) ≤ 1000000000000 := by clear hiw; omega
            have e2 : wrap64 ((N : Int) - 1) = (N : Int) - 1 := w64_in b1.1 b1.2
            have e3 : wrap64 ((N : Int) - 1 - (i : Int)) = (N : Int) - 1 - (i : Int) := w64_in b2.1 b2.2
            clear b1 b2 hiw
            go_wp2_with fail
            go_meet
            case rel => exact ⟨by rw [E.out], rfl⟩
        case rest =>
          obtain ⟨rfl, rfl⟩ := hcut
          obtain ⟨W6, hW6⟩ : ∃ W6, W6 = wc := ⟨_, rfl⟩
          rw [← hW6] at HK g1 c1 c2 hbw ⊢
          clear hW6
          have hy9 : -1000000000000 ≤ y ∧ y ≤ 1000000000000 := by clear hiw; omega
          have hyi9 : -1000000000000 ≤ yi ∧ yi ≤ 1000000000000 := by clear hiw; omega
          have hy12 : wrap64 (zk.tmod M) = y := by rw [← HZ.out.2.2.1]; exact w64_in hy9.1 hy9.2
          have hyi12 : wrap64 (zi.tmod M) = yi := by rw [← HZ.out.2.2.2.1]; exact w64_in hyi9.1 hyi9.2
          have HY := Sealed.mk (And.intro hyk hyi)
          clear hy9 hyi9 hyk hyi
          obtain ⟨L, hct, h2, h3, h4⟩ := HK.out
          have HC := Sealed.mk (And.intro hct (And.intro h2 (And.intro h3 h4)))
          clear hct h2 h3 h4 HK
          go_upto_region 13 with fail
          go_upto_block 2 with (at_builtin; go_must (refine ap_litp (m := 1) el_int (.tmp 44) (.tmp 53) rfl rfl rfl HC.out.1.f rfl rfl rfl (by decide) (by simp [Value.oneCell']) (by omega) HC.out.1.below.size ?_); go_must (intro g8 c8 w8 ho8 hg8 _; have HO8 := Sealed.mk (And.intro ho8 hg8); clear ho8 hg8))
          have OFK := Sealed.mk (fun W => Of_one (n := (k : Int)) (by clear hiw hy12 hyi12; unfold Is64; omega) W)
          have hyk := HY.out.1
          have K8 : Sealed (CntS W2 w8 A back i k y y (.slice (some ⟨g8, 0, none⟩) (i + 1) c8) (.slice la nl lc) (i + 1) nl) := by
            refine ⟨⟨L, ?_, HC.out.2.1, by rw [HC.out.2.2.1]; simp, by have := HC.out.2.2.2; simp at this; clear hiw hy12 hyi12; omega⟩⟩
            have hF : (cntF A).take (i + 1) = (cntF A).take i ++ [yi] := by rw [take_snoc (cntF_at HZ.out.2.1), HZ.out.2.2.2.1, H.out.2.2.2.1]
            rw [hF]
            exact HC.out.1.pushF (W1 := W6) (Below.refl _ _) HO8.out.2 HO8.out.1
          clear hy12 hyi12 c1 c2 g1
          have hi590 : i < 590 := by omega
          go_wp2_with fail
          go_loopg [8, 12] y.natAbs (fun jj lv nv W => ∃ (n : Int) (nl : Nat) (la : Option Addr) (lc : Nat), jj = n.natAbs ∧ nv = .int .i64 n ∧ lv = .slice la nl lc ∧ Sealed (CntS W2 W A back i k y n (.slice (some ⟨g8, 0, none⟩) (i + 1) c8) (.slice la nl lc) (i + 1) nl ∧ -5 < n ∧ n < 5))
          case atStart => exact ⟨y, nl, la, lc, rfl, rfl, rfl, ⟨K8.out, by omega, by omega⟩⟩
          case round =>
            obtain ⟨n, nm, lb, ld, rfl, rfl, rfl, HN⟩ := hrel
            by_cases hn0 : n = 0
            · subst hn0
              obtain ⟨⟨L2, hct, h2, h3, h4⟩, hn4⟩ := HN.out
              have K9 : Sealed (CntS W2 wr A back (i + 1) 0 0 0 (.slice (some ⟨g8, 0, none⟩) (i + 1) c8) (.slice lb nm ld) (i + 1) nm) := by
                refine ⟨⟨L2, hct, h2, ?_, ?_⟩⟩
                · have hiA : i < A.length := by have := H.out.2.2.1; clear hiw; omega
                  have hkk : A[cntK A.length back i]? = some zk := by rw [← H.out.2.2.1, ← HZ.out.2.2.2.2.1]; exact HZ.out.1
                  rw [h3, cntV_succ hiA hkk, ← H.out.2.2.1, ← HZ.out.2.2.2.2.1, H.out.2.2.1, ← H.out.2.2.2.1, ← HZ.out.2.2.1]
                  simp
                · rw [← H.out.2.2.2.1] at h4 ⊢
                  rw [show (M - 1) * ((i + 1 : Nat) : Int) = (M - 1) * (i : Int) + (M - 1) by push_cast; rw [Int.mul_add, Int.mul_one]]
                  generalize (M - 1) * (i : Int) = q at h4 ⊢
                  clear hiw
                  simp at h4 ⊢
                  omega
              clear hct h2 h3 h4 hn4 HN K8
              go_wp2_with fail
              go_roundg (N - (i + 1))
              case measure => clear hiw; omega
              case rel => exact ⟨i + 1, nm, _, lb, c8, ld, rfl, by clear hiw; omega, by push_cast; rfl, rfl, rfl, K9⟩
            · have bN : (n == 0) = false := by simpa using hn0
              obtain ⟨⟨L2, hct, h2, h3, h4⟩, hn4⟩ := HN.out
              have hnm : nm ≤ 3000 := by
                rw [← H.out.2.2.2.1] at h4
                rcases HMN.out with ⟨_, e⟩ | ⟨_, e⟩
                · rw [e] at h4; clear hiw; omega
                · rw [e] at h4; clear hiw; omega
              obtain ⟨ts, hts⟩ := hct.l
              have hsz := hct.below.size
              have HT := Sealed.mk (And.intro hct (And.intro h2 (And.intro h3 (And.intro h4 (And.intro hts hsz)))))
              clear hct h2 h3 h4 hts hsz HN K8
              by_cases hneg : n < 0
              · have bD : decide (n < 0) = true := decide_eq_true hneg
                go_wp2_with (first
                  | (go_at_call 21; go_must ((with_reducible refine (OFK.out _).mono ?_); rintro e w3 ⟨p3, rfl, hb, hn⟩; have hto := HT.out.2.2.2.2.1.below hb; have hown := hto.own; rw [← HT.out.1.nl] at hown; have hsz : W2.heap.size ≤ w3.heap.size := Nat.le_trans HT.out.2.2.2.2.2 hb.size; have D := Sealed.mk (And.intro hown (And.intro hb (And.intro hn hsz))); clear hb hn hto hown hsz))
                  | (at_builtin; go_must (refine ap_litp (m := 1) el_Term (.tmp 57) (.tmp 63) rfl rfl rfl D.out.1 rfl rfl rfl (by decide) (by simp [Value.oneCell']) (by omega) D.out.2.2.2 ?_); go_must (intro g9 c9 w9 ho9 hg9 hn9; have HO9 := Sealed.mk (And.intro ho9 hg9); clear ho9 hg9 hn9)))
                go_roundg (n + 1).natAbs
                case measure => clear hiw; omega
                case rel =>
                  refine ⟨n + 1, nm + 1, _, c9, rfl, rfl, rfl, ⟨CntS.term (m := true) (HT.out.1.adv D.out.2.1) HT.out.2.1 HT.out.2.2.1 HT.out.2.2.2.1 (HT.out.2.2.2.2.1.below D.out.2.1) (Below.refl _ _) D.out.2.2.1 HO9.out.2 HO9.out.1 (.inl ⟨hneg, rfl, rfl⟩), by clear hiw; omega, by clear hiw; omega⟩⟩
              · have bD : decide (n < 0) = false := decide_eq_false hneg
                have hpos : 0 < n := by clear hiw; omega
                go_wp2_with (first
                  | (go_at_call 21; go_must ((with_reducible refine (OFK.out _).mono ?_); rintro e w3 ⟨p3, rfl, hb, hn⟩; have hto := HT.out.2.2.2.2.1.below hb; have hown := hto.own; rw [← HT.out.1.nl] at hown; have hsz : W2.heap.size ≤ w3.heap.size := Nat.le_trans HT.out.2.2.2.2.2 hb.size; have D := Sealed.mk (And.intro hown (And.intro hb (And.intro hn hsz))); clear hb hn hto hown hsz))
                  | (at_builtin; go_must (refine ap_litp (m := 1) el_Term (.tmp 57) (.tmp 63) rfl rfl rfl D.out.1 rfl rfl rfl (by decide) (by simp [Value.oneCell']) (by omega) D.out.2.2.2 ?_); go_must (intro g9 c9 w9 ho9 hg9 hn9; have HO9 := Sealed.mk (And.intro ho9 hg9); clear ho9 hg9 hn9)))
                go_roundg (n - 1).natAbs
                case measure => clear hiw; omega
                case rel =>
                  refine ⟨n - 1, nm + 1, _, c9, rfl, rfl, rfl, ⟨CntS.term (m := false) (HT.out.1.adv D.out.2.1) HT.out.2.1 HT.out.2.2.1 HT.out.2.2.2.1 (HT.out.2.2.2.2.1.below D.out.2.1) (Below.refl _ _) D.out.2.2.1 HO9.out.2 HO9.out.1 (.inr ⟨hpos, rfl, rfl⟩), by clear hiw; omega, by clear hiw; omega⟩⟩
      · obtain rfl : i = N := by omega
        obtain ⟨L, hct, h2, h3, h4⟩ := HK.out
        obtain ⟨ts, hts⟩ := hct.l
        have hnm : nl ≤ 1000 := by
          rw [← H.out.2.2.2.1] at h4
          rcases HMN.out with ⟨_, e⟩ | ⟨_, e⟩
          · rw [e] at h4; simp at h4; omega
          · rw [e] at h4; simp at h4; omega
        have hlen : L.length = nl := hct.nl.symm
        have hval : termsV L = vl (cntF A) := by
          rw [h3, H.out.2.2.1, cntV_all]; simp
        have hsum : sumR L = (vl (cntF A), 0) := by
          unfold sumR
          rw [if_neg (by rintro ⟨t, ht, h⟩; have := h2 t ht; omega), if_neg (by omega), hval, gv_ok (cnt_allowed (by rw [← H.out.2.2.1]; exact hA))]
        have hta := hts.at_ (by omega)
        have hF : (cntF A).take i = cntF A := by rw [H.out.2.2.1, ← cntF_length, List.take_length]
        have hf := hct.f
        rw [hF] at hf
        have hs2 := H.out.2.2.2.2.2.2.2.1
        have HF := Sealed.mk (And.intro hsum (And.intro hta (And.intro hf (And.intro hct.below hs2))))
        have hb5 := hct.below
        clear hct h2 h3 h4 hts hsum hta hF hf hval hlen HK hs2
        go_upto_region 20 with (go_at_call 27; go_must ((with_reducible refine (Sum_two HF.out.1 HF.out.2.1).mono ?_); rintro e w9 ⟨p9, rfl, hb, hn⟩; have H9 := Sealed.mk (And.intro hb hn); clear hb hn))
        obtain ⟨W10, hW10⟩ : ∃ W10, W10 = w9.alloc (.cells #[.pointer p9] 30) := ⟨_, rfl⟩
        have hb9 := below_chain hb5 H9.out.1
        have hb10 : Below W2.heap.size W2 W10 := by rw [hW10]; exact below_chain hb9 (below_new _ _)
        have hn10 : NumIs W10 (.agg #[.pointer p9]) (vl (cntF A)) := by rw [hW10]; exact H9.out.2.below (below_new _ _)
        have z13 : W10.heap[w9.heap.size]? = some (.cells #[.pointer p9] 30 (0, 0)) := by rw [hW10]; exact blk_alloc _ _
        have z5 : W10.heap[w.heap.size + 1]? = some (.cells #[.pointer none] 30 (0, 0)) := (hb10.block _ (lt_of_blk H.out.2.2.2.2.2.2.1)).trans H.out.2.2.2.2.2.2.1
        have d13 : W10.drew.cell? ⟨w9.heap.size, 0, none⟩ = some (.pointer p9) := (cell_of_blk (show W10.drew.heap[w9.heap.size]? = _ from z13) 0).trans rfl
        have d5 : W10.drew.cell? ⟨w.heap.size + 1, 0, none⟩ = some (.pointer none) := (cell_of_blk (show W10.drew.heap[w.heap.size + 1]? = _ from z5) 0).trans rfl
        have d5f : W10.drew.frozen? ⟨w.heap.size + 1, 0, none⟩ = false := frozen_of_blk (show W10.drew.heap[w.heap.size + 1]? = _ from z5) 0
        have hf10 := own_ext HF.out.2.2.1 (Ext.of_below (M := noB) (below_chain H9.out.1 (below_new w9 (.cells #[.pointer p9] 30)))) (fun _ _ h => h)
        rw [← hW10] at hf10
        have HE := Sealed.mk (And.intro hb10 (And.intro hn10 (And.intro z5 hf10)))
        rw [← hW10]
        clear hW10 hb9 hb10 hn10 z13 z5 hf10 hb5
        have q13 : W10.cell? ⟨w9.heap.size, 0, none⟩ = some (.pointer p9) := d13
        have q5 : W10.cell? ⟨w.heap.size + 1, 0, none⟩ = some (.pointer none) := d5
        have q5f : W10.frozen? ⟨w.heap.size + 1, 0, none⟩ = false := d5f
        go_region
        go_wp2_with fail
        have c13 : (W10.setCell ⟨w.heap.size + 1, 0, none⟩ (.pointer p9)).drew.cell? ⟨w.heap.size + 1, 0, none⟩ = some (.pointer p9) := by
          show (W10.setCell ⟨w.heap.size + 1, 0, none⟩ (.pointer p9)).cell? ⟨w.heap.size + 1, 0, none⟩ = some (.pointer p9)
          rw [cell_of_blk (blk_setCell HE.out.2.2.1 0 _)]; rfl
        have hx : Ext (fun j => j = w.heap.size + 1) W10 (W10.setCell ⟨w.heap.size + 1, 0, none⟩ (.pointer p9)).drew := ((Ext.refl (fun j => j = w.heap.size + 1) W10).setCell (p := ⟨w.heap.size + 1, 0, none⟩) (.inl rfl) _).drew
        have hx2 : Ext (fun j => j = w.heap.size + 1) W10 (W10.setCell ⟨w.heap.size + 1, 0, none⟩ (.pointer p9)) := (Ext.refl (fun j => j = w.heap.size + 1) W10).setCell (p := ⟨w.heap.size + 1, 0, none⟩) (.inl rfl) _
        refine bodyPost_ret (v := .tuple #[.slice fa i fc, .agg #[.pointer p9], .int .i64 0]) (by simp [results, Try.results30, go_sem, c13]) rfl ⟨fa, fc, p9, rfl, ?_, ?_, ?_⟩
        · exact own_ext (own_lower HE.out.2.2.2 (by have := H.out.2.2.2.2.2.2.2.1; omega)) hx fun q hq e => by
            have h1 := own_ge HE.out.2.2.2 q hq
            have h2 := H.out.2.2.2.2.2.2.2.1
            have e' : q = w.heap.size + 1 := e
            omega
        · exact (HE.out.2.1.other HE.out.2.2.1 hx2).below (below_drew _)
        · have hb := below_chain H.out.2.2.2.2.1 HE.out.1
          exact below_dr (hb.setCell (p := ⟨w.heap.size + 1, 0, none⟩) (by simp) _)

end Go.Proofs.Ytgchfbfgjanaiaa
