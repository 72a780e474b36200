/- num.Load -/
import Derived.Test.YtgchfbfgjanaiaaJ32
set_option linter.unusedSimpArgs false
set_option linter.unusedVariables false
namespace Go.Proofs.Ytgchfbfgjanaiaa
open Go.RowKit Sr
theorem ld_put {w W : World} (hb : Below w.heap.size w W) (hr : W.heap[w.heap.size]? = some (.cells #[.pointer none] 30 (0, 0))) (p : Option Addr) :
    W.cell? ⟨w.heap.size, 0, none⟩ = some (.pointer none) ∧ W.frozen? ⟨w.heap.size, 0, none⟩ = false ∧ (W.setCell ⟨w.heap.size, 0, none⟩ (.pointer p)).cell? ⟨w.heap.size, 0, none⟩ = some (.pointer p) ∧ Below w.heap.size w (W.setCell ⟨w.heap.size, 0, none⟩ (.pointer p)) :=
  ⟨(cell_of_blk hr 0).trans rfl, frozen_of_blk hr 0, by rw [cell_of_blk (blk_setCell hr 0 _)]; rfl, hb.setCell (p := ⟨w.heap.size, 0, none⟩) (Nat.le_refl _) _⟩
set_option maxRecDepth 100000 in
set_option maxHeartbeats 4000000 in
theorem Load_any {w : World} {v : Value} {l0 : List Int} (h : BytesAt w v l0) : Calls Try.prog 18 #[v] w (LoadOut w l0) := by
  obtain ⟨va, vc, rfl, hvc, -, hvcell⟩ := h.at_
  obtain ⟨W1, hW1⟩ : ∃ W1, W1 = w.alloc (.cells #[.pointer none] 30) := ⟨_, rfl⟩
  have b1 : Below w.heap.size w W1 := by rw [hW1]; exact (Below.refl _ _).alloc (Nat.le_refl _) _
  have s1 : W1.heap.size = w.heap.size + 1 := by rw [hW1]; simp
  have x1 : W1.heap[w.heap.size]? = some (.cells #[.pointer none] 30 (0, 0)) := by rw [hW1]; exact blk_alloc _ _
  have hnw := newWorld_any (w := W1) (U := ldU []) (by simp [ldU]) (ldU_length (by simp))
  rw [hW1] at hnw
  have HNW := Sealed.mk hnw; clear hnw
  obtain ⟨nl, hnl⟩ : ∃ nl, nl = l0.length := ⟨_, rfl⟩
  rw [← hnl] at hvc ⊢
  have H := Sealed.mk (And.intro h (And.intro hvcell hnl)); clear h hvcell hnl
  have HX := Sealed.mk (And.intro hW1 (And.intro b1 (And.intro s1 x1))); clear hW1 b1 s1 x1
  go_enter Try.func18, Try.ntmps18
  go_upto_region 4 with (go_at_call 52; go_must (refine HNW.out.mono ?_; rintro e w3 ⟨b, rfl, hi3, hb3, hM3⟩; rw [← HX.out.1] at hb3 hM3; have H3 := Sealed.mk (And.intro hi3 (And.intro hb3 hM3)); clear hi3 hb3 hM3))
  obtain ⟨lv, hlv⟩ : ∃ lv, lv = w3.heap.size := ⟨_, rfl⟩
  obtain ⟨W4, hW4⟩ : ∃ W4, W4 = w3.alloc (.cells #[.slice va nl vc] 22) := ⟨_, rfl⟩
  rw [← hW4, ← hlv]
  have hwlv : w.heap.size < lv := by have := H3.out.2.1.size; have := HX.out.2.2.1; omega
  have b3 : Below w.heap.size w w3 := below_chain HX.out.2.1 H3.out.2.1
  have e4 : Ext noB w3 W4 := by rw [hW4]; exact (Ext.refl noB w3).alloc _
  have z4 : W4.heap[lv]? = some (.cells #[.slice va nl vc] 22 (0, 0)) := by rw [hW4, hlv]; exact blk_alloc _ _
  have b4 : Below w.heap.size w W4 := below_ext b3 e4 (fun _ h => h.elim)
  have hleft : LeftAt W4 lv l0 := by
    refine ⟨H.out.1.range, H.out.1.len, va, vc, by rw [← H.out.2.2]; exact z4, by rw [← H.out.2.2]; exact hvc, fun hl => ?_⟩
    obtain ⟨bb, o, q1, q2, q3, q4⟩ := H.out.2.1 hl
    have hb := b4.block bb q2
    exact ⟨bb, o, q1, by omega, by have := b4.size; omega, q3.same hb, fun i x hx => (cell_same hb _).trans (q4 i x hx)⟩
  have hld4 : LD w W4 b.p lv [] [0] b (.slice none 0 0) l0 := by
    refine ⟨H3.out.1.below e4.below, rfl, b4, fun q hq => by have := H3.out.2.2 q hq; have := HX.out.2.2.1; omega, e4.get ((H3.out.2.1.block _ (lt_of_blk HX.out.2.2.2)).trans HX.out.2.2.2) (fun h => h), World.ownsRow_nil _ _ _ _, fun q hq => by simp [Value.ownBlock] at hq, ?_, hwlv, hleft, fun y hy => by simp at hy, fun y hy => by simp at hy⟩
    exact (H3.out.1.fresh (q := lv) (by omega)).same e4 (H3.out.1.lt _ (.inr (.inl rfl))) (fun h => h)
  have hln := loadN_any hleft
  obtain ⟨cn, hcn⟩ : ∃ cn, cn = (two2 l0).1 := ⟨_, rfl⟩
  rw [← hcn] at hln
  have HLN := Sealed.mk hln; clear hln
  have H4 := Sealed.mk (And.intro hld4 (And.intro H.out.2.2 (And.intro hcn (And.intro hlv hW4)))); clear hld4 hcn hlv hW4 hleft b3 b4 e4 z4
  by_cases hbad : cn < 1 ∨ 2000 < cn
  · have HBAD := Sealed.mk hbad
    have hno : ¬ ∃ x, Allowed x ∧ bytesN x = l0 := fun hx => by have := tr_start hx; rw [← H4.out.2.2.1] at this; omega
    have HNO := Sealed.mk hno; clear hno
    by_cases hc1 : cn < 1
    · have d1 : decide (cn < 1) = true := by simp [hc1]
      go_wp2_with (go_at_call 53; go_must (refine HLN.out.mono ?_; rintro e w5 ⟨rfl, hl5, he5⟩; have hd := H4.out.1.read he5 hl5; obtain ⟨p1, p2, p3, p4⟩ := ld_put hd.below hd.res none; have HP := Sealed.mk (And.intro p3 p4); clear p3 p4 hd he5 hl5))
      refine bodyPost_ret (v := .tuple #[.agg #[.pointer none], .int .i64 2]) (by simp [results, Try.results18, go_sem, HP.out.1]) rfl ⟨none, 2, rfl, HP.out.2, .inr ⟨HNO.out, rfl, rfl⟩⟩
    · have d1 : decide (cn < 1) = false := by simp only [hc1, decide_false]
      have hc2 : 2000 < cn := by omega
      have d2 : decide (2000 < cn) = true := by simp [hc2]
      go_wp2_with (go_at_call 53; go_must (refine HLN.out.mono ?_; rintro e w5 ⟨rfl, hl5, he5⟩; have hd := H4.out.1.read he5 hl5; obtain ⟨p1, p2, p3, p4⟩ := ld_put hd.below hd.res none; have HP := Sealed.mk (And.intro p3 p4); clear p3 p4 hd he5 hl5))
      refine bodyPost_ret (v := .tuple #[.agg #[.pointer none], .int .i64 2]) (by simp [results, Try.results18, go_sem, HP.out.1]) rfl ⟨none, 2, rfl, HP.out.2, .inr ⟨HNO.out, rfl, rfl⟩⟩
  · obtain ⟨c, hc⟩ : ∃ c : Nat, cn = (c : Int) := ⟨cn.toNat, by omega⟩
    subst hc
    have hc1 : 1 ≤ c := by omega
    have hc2 : c ≤ 2000 := by omega
    have d1 : decide ((c : Int) < 1) = false := decide_eq_false (by omega)
    have d2 : decide (2000 < (c : Int)) = false := decide_eq_false (by omega)
    have htr := tr_zero l0
    rw [← H4.out.2.2.1, show ((c : Int)).toNat = c by omega] at htr
    have HTR := Sealed.mk htr; clear htr hbad
    go_wp2_with (go_at_call 53; go_must (refine HLN.out.mono ?_; rintro e w5 ⟨rfl, hl5, he5⟩; have HD5 := Sealed.mk (H4.out.1.read he5 hl5); clear he5 hl5))
    go_loopg [8, 28] c (fun jj pv iv W => ∃ (j : Nat) (nums vs1 left : List Int) (b1 : WB) (pa : Option Addr) (pc : Nat), jj = c - j ∧ j ≤ c ∧ iv = .int .i64 (j : Int) ∧ pv = .slice pa j pc ∧ nums.length = j ∧ LD w W b.p lv nums vs1 b1 (.slice pa j pc) left ∧ Tr l0 c nums left)
    case atStart => exact ⟨0, [], [0], _, b, none, 0, rfl, Nat.zero_le _, rfl, rfl, rfl, HD5.out, HTR.out⟩
    case round =>
      obtain ⟨j, nums, vs1, left, b1, pa, pc, rfl, hj, rfl, rfl, hnj, hld, htr⟩ := hrel
      by_cases hjc : j < c
      · obtain ⟨htk, hok⟩ := htr.part (by omega)
        have hln := loadN_any hld.left
        obtain ⟨tn, htn⟩ : ∃ tn, tn = (two2 left).1 := ⟨_, rfl⟩
        rw [← htn] at hln htk hok
        have HLN2 := Sealed.mk hln; clear hln
        have HJ := Sealed.mk (And.intro hld (And.intro htk (And.intro hnj htn))); clear hld htr htk hnj htn
        by_cases hb2 : tn < 0 ∨ 300 < tn
        · have hno : ¬ ∃ x, Allowed x ∧ bytesN x = l0 := fun hx => by have := hok hx; omega
          have HNO := Sealed.mk hno; clear hno hok
          by_cases ht1 : tn < 0
          · have d3 : decide (tn < 0) = true := by simp [ht1]
            go_wp2_with (go_at_call 53; go_must (refine HLN2.out.mono ?_; rintro e w6 ⟨rfl, hl6, he6⟩; have hd := HJ.out.1.read he6 hl6; obtain ⟨p1, p2, p3, p4⟩ := ld_put hd.below hd.res none; have HP := Sealed.mk (And.intro p3 p4); clear p3 p4 hd he6 hl6))
            refine bodyPost_ret (v := .tuple #[.agg #[.pointer none], .int .i64 2]) (by simp [results, Try.results18, go_sem, HP.out.1]) rfl ⟨none, 2, rfl, HP.out.2, .inr ⟨HNO.out, rfl, rfl⟩⟩
          · have d3 : decide (tn < 0) = false := by simp only [ht1, decide_false]
            have ht2 : 300 < tn := by omega
            have d4 : decide (300 < tn) = true := by simp [ht2]
            go_wp2_with (go_at_call 53; go_must (refine HLN2.out.mono ?_; rintro e w6 ⟨rfl, hl6, he6⟩; have hd := HJ.out.1.read he6 hl6; obtain ⟨p1, p2, p3, p4⟩ := ld_put hd.below hd.res none; have HP := Sealed.mk (And.intro p3 p4); clear p3 p4 hd he6 hl6))
            refine bodyPost_ret (v := .tuple #[.agg #[.pointer none], .int .i64 2]) (by simp [results, Try.results18, go_sem, HP.out.1]) rfl ⟨none, 2, rfl, HP.out.2, .inr ⟨HNO.out, rfl, rfl⟩⟩
        · obtain ⟨n, hn⟩ : ∃ n : Nat, tn = (n : Int) := ⟨tn.toNat, by omega⟩
          subst hn
          have hn3 : n ≤ 300 := by omega
          have d3 : decide ((n : Int) < 0) = false := decide_eq_false (by omega)
          have d4 : decide (300 < (n : Int)) = false := decide_eq_false (by omega)
          clear hb2 hok
          go_wp2_with (go_at_call 53; go_must (refine HLN2.out.mono ?_; rintro e w6 ⟨rfl, hl6, he6⟩; have HD6 := Sealed.mk (HJ.out.1.read he6 hl6); clear he6 hl6))
          go_loopg [10, 40] n (fun jj rv iv W => ∃ (k : Nat) (tl : List (Bool × Int)) (left2 : List Int) (ra : Option Addr) (rc : Nat), jj = n - k ∧ k ≤ n ∧ iv = .int .i64 (k : Int) ∧ rv = .slice ra k rc ∧ tl.length = k ∧ LK w W b.p lv nums vs1 b1 (.slice pa j pc) left2 tl (.slice ra k rc) ∧ TrK l0 c nums n k tl left2)
          case atStart =>
            refine ⟨0, [], _, none, 0, rfl, Nat.zero_le _, rfl, rfl, rfl, LK.start HD6.out, ?_⟩
            have := HJ.out.2.1
            rwa [show ((n : Int)).toNat = n by omega] at this
          case round =>
            obtain ⟨k, tl, left2, ra, rc, rfl, hk, rfl, rfl, htlk, hlk, htrk⟩ := hrel
            by_cases hkn : k < n
            · obtain ⟨la, lc, hl1, hl2, hl3⟩ := hlk.ld.left.var
              obtain ⟨ll, hll⟩ : ∃ ll, ll = left2.length := ⟨_, rfl⟩
              rw [← hll] at hl1 hl2
              have g0 : wr.cell? ⟨lv, 0, none⟩ = some (.slice la ll lc) := (cell_of_blk hl1 0).trans rfl
              have g1 : wr.frozen? ⟨lv, 0, none⟩ = false := frozen_of_blk hl1 0
              by_cases h3 : ll < 3
              · have hno : ¬ ∃ x, Allowed x ∧ bytesN x = l0 := fun hx => by
                  obtain ⟨s, a, at_, l', z, e1, e2, -⟩ := htrk.term hkn hx
                  rw [e1] at hll
                  simp at hll
                  omega
                have d5 : decide ((ll : Int) < 3) = true := decide_eq_true (by omega)
                obtain ⟨p1, p2, p3, p4⟩ := ld_put hlk.ld.below hlk.ld.res none
                have HP := Sealed.mk (And.intro hno (And.intro p3 p4)); clear hno hlk htrk hl3 hll htlk p3 p4
                go_wp2_with fail
                refine bodyPost_ret (v := .tuple #[.agg #[.pointer none], .int .i64 2]) (by simp [results, Try.results18, go_sem, HP.out.2.1]) rfl ⟨none, 2, rfl, HP.out.2.2, .inr ⟨HP.out.1, rfl, rfl⟩⟩
              · have d5 : decide ((ll : Int) < 3) = false := decide_eq_false (by omega)
                obtain ⟨s, l', hsl⟩ : ∃ s l', left2 = s :: l' := by
                  cases left2 with
                  | nil => simp at hll; omega
                  | cons s l' => exact ⟨s, l', rfl⟩
                subst hsl
                obtain ⟨lb, lo, rfl, q2, q3, q4, q5⟩ := hl3 (by simp)
                have hs0 := hlk.ld.left.range s (by simp)
                obtain ⟨r, hr⟩ : ∃ r, r = l'.length := ⟨_, rfl⟩
                have hlr : ll = r + 1 := by rw [hll, hr]; rfl
                subst hlr
                have g2 : wr.cell? ⟨lb, lo, none⟩ = some (.int .u8 s) := q5 0 s rfl
                have hrn : (0 : Int) < (r : Int) + 1 := by omega
                by_cases h1s : 1 < s
                · have hno : ¬ ∃ x, Allowed x ∧ bytesN x = l0 := fun hx => by
                    obtain ⟨s', a, at_, l'', z, e1, -, e3, -⟩ := htrk.term hkn hx
                    have := (List.cons.inj e1).1
                    omega
                  have d6 : decide (1 < s) = true := decide_eq_true h1s
                  obtain ⟨p1, p2, p3, p4⟩ := ld_put hlk.ld.below hlk.ld.res none
                  have HP := Sealed.mk (And.intro hno (And.intro p3 p4)); clear hno hlk htrk hl3 hll htlk p3 p4 h1s hs0 q5 q4 hr
                  go_wp2_with fail
                  refine bodyPost_ret (v := .tuple #[.agg #[.pointer none], .int .i64 2]) (by simp [results, Try.results18, go_sem, HP.out.2.1]) rfl ⟨none, 2, rfl, HP.out.2.2, .inr ⟨HP.out.1, rfl, rfl⟩⟩
                · have d6 : decide (1 < s) = false := decide_eq_false h1s
                  obtain ⟨m, hm⟩ : ∃ m, m = decide (s = 1) := ⟨_, rfl⟩
                  have hse : (s == 1) = m := by rw [hm]; rfl
                  obtain ⟨W7, hW7⟩ : ∃ W7, W7 = wr.alloc (.cells #[.bool m, .int .i64 0] 98) := ⟨_, rfl⟩
                  have e7 : Ext noB wr W7 := by rw [hW7]; exact (Ext.refl noB wr).alloc _
                  have kb7 : W7.heap[wr.heap.size]? = some (.cells #[.bool m, .int .i64 0] 98 (0, 0)) := by rw [hW7]; exact blk_alloc _ _
                  have hlvs := lt_of_blk hl1
                  have z7 := e7.get hl1 (fun h => h)
                  have g3 : W7.cell? ⟨lv, 0, none⟩ = some (.slice (some ⟨lb, lo, none⟩) (r + 1) lc) := (cell_of_blk z7 0).trans rfl
                  have g4 : W7.frozen? ⟨lv, 0, none⟩ = false := frozen_of_blk z7 0
                  have hleft7 : LeftAt W7 lv (s :: l') := (hlk.ld.same e7).left
                  have hlc1 : ¬ lc = 1 := by omega
                  have HK := Sealed.mk (And.intro hlk (And.intro htrk (And.intro htlk (And.intro hs0 (And.intro hm (And.intro e7 (And.intro kb7 (And.intro hlvs (And.intro hleft7 (And.intro q5 (And.intro q2 (And.intro q3 (And.intro q4 hr)))))))))))))
                  clear hlk htrk htlk hs0 hm e7 kb7 hleft7 q5 q2 q3 q4 hr hl1 hll hl3 z7 h1s
                  go_upto_region 19 with fail
                  rw [← hW7]
                  have HW7 := Sealed.mk hW7; clear hW7
                  go_upto_region 20 with fail
                  obtain ⟨W8, hW8⟩ : ∃ W8, W8 = W7.setCell ⟨lv, 0, none⟩ (.slice (some ⟨lb, lo + 1, none⟩) r (lc - 1)) := ⟨_, rfl⟩
                  rw [← hW8]
                  obtain ⟨hlk, htrk, htlk, hs0, hm, e7, kb7, hlvs, hleft7, q5, q2, q3, q4, hr⟩ := HK.out
                  have hleft8 : LeftAt W8 lv l' := by
                    rw [hW8, hr]
                    refine hleft7.set rfl (fun z hz => hleft7.range z (by simp [hz])) (by have := hleft7.len; simp at this; omega) (by omega) (fun hne => ⟨lb, lo + 1, rfl, q2, by have := e7.size; omega, q4.same (e7.block lb q3 (fun h => h)), fun i z hz => ?_⟩)
                    rw [show lo + 1 + i = lo + (i + 1) by omega, cell_same (e7.block lb q3 (fun h => h))]
                    exact q5 (i + 1) z (by simpa using hz)
                  have e8 : Ext (fun q => q = lv) wr W8 := by rw [hW8]; exact (e7.imp (M := fun q => q = lv) (fun _ h => h.elim)).setCell (p := ⟨lv, 0, none⟩) (.inl rfl) _
                  have kb8 : W8.heap[wr.heap.size]? = some (.cells #[.bool m, .int .i64 0] 98 (0, 0)) := by
                    rw [hW8]
                    exact ((Ext.refl (fun q => q = lv) W7).setCell (p := ⟨lv, 0, none⟩) (.inl rfl) _).get kb7 (by show ¬ wr.heap.size = lv; omega)
                  have hln := loadN_any hleft8
                  obtain ⟨an, han⟩ : ∃ an, an = (two2 l').1 := ⟨_, rfl⟩
                  have han0 : 0 ≤ an := by
                    rw [han]
                    match l', hr, hleft8.range with
                    | [], hr, _ => simp at hr; omega
                    | [_], hr, _ => simp at hr; omega
                    | x :: y :: l2, _, hrg => have h1 := hrg x (by simp); have h2 := hrg y (by simp); simp only [two2]; omega
                  rw [← han] at hln
                  have HLN3 := Sealed.mk hln; clear hln
                  have H8 := Sealed.mk (And.intro e8 (And.intro kb8 (And.intro hleft8 (And.intro han han0)))); clear e8 kb8 hleft8 han hlk htrk htlk hs0 hm e7 kb7 hleft7 q5 q2 q3 q4 hr g0 g1 g2 g3 g4 hW8
                  by_cases hjn : (j : Int) ≤ an
                  · have d7 : decide ((j : Int) ≤ an) = true := decide_eq_true hjn
                    have hno : ¬ ∃ x, Allowed x ∧ bytesN x = l0 := fun hx => by
                      obtain ⟨s', a, at_, l'', z, e1, -, -, e4, e5⟩ := HK.out.2.1.term hkn hx
                      obtain ⟨-, e6⟩ := List.cons.inj e1
                      subst e6
                      have h1 := H8.out.2.2.2.1
                      rw [e4] at h1
                      have h2 := (List.getElem?_eq_some_iff.1 e5).1
                      have h3 := HJ.out.2.2.1
                      simp only at h1
                      omega
                    have HNO := Sealed.mk hno; clear hno hjn
                    go_wp2_with (go_at_call 53; go_must (refine HLN3.out.mono ?_; rintro e w9 ⟨rfl, hl9, he9⟩; have hk9 := HK.out.1.read (H8.out.1.same he9) hl9; obtain ⟨p1, p2, p3, p4⟩ := ld_put hk9.ld.below hk9.ld.res none; have HP := Sealed.mk (And.intro p3 p4); clear p3 p4 hk9 he9 hl9))
                    refine bodyPost_ret (v := .tuple #[.agg #[.pointer none], .int .i64 2]) (by simp [results, Try.results18, go_sem, HP.out.1]) rfl ⟨none, 2, rfl, HP.out.2, .inr ⟨HNO.out, rfl, rfl⟩⟩
                  · have d7 : decide ((j : Int) ≤ an) = false := decide_eq_false hjn
                    obtain ⟨q, hq⟩ : ∃ q : Nat, an = (q : Int) := ⟨an.toNat, by have := H8.out.2.2.2.2; omega⟩
                    subst hq
                    have hqj : q < j := by omega
                    have hqj2 : (q : Int) < (j : Int) := by omega
                    have hqz : (0 : Int) ≤ (q : Int) := by omega
                    obtain ⟨z, hz⟩ : ∃ z, nums[q]? = some z := ⟨_, List.getElem?_eq_getElem (by have := HJ.out.2.2.1; omega)⟩
                    obtain ⟨iz, hiz⟩ : ∃ iz, iz = vs1.idxOf z := ⟨_, rfl⟩
                    have HZ := Sealed.mk (And.intro hz hiz); clear hz hiz hjn
                    go_upto_region 24 with (go_at_call 53; go_must (refine HLN3.out.mono ?_; rintro e w9 ⟨rfl, hl9, he9⟩; have e9 := H8.out.1.same he9; have hk9 := HK.out.1.read e9 hl9; have hown9 := hk9.ld.own; rw [HJ.out.2.2.1] at hown9; obtain ⟨pg, pcap, epa⟩ := own_form hown9 (by omega); obtain ⟨rfl, -, rfl⟩ := Value.slice.inj epa; have c9 : w9.cell? ⟨pg, q, none⟩ = some (.int .i64 (iz : Int)) := own_cell hown9 rfl (by unfold icells; rw [List.getElem?_map, List.getElem?_map, HZ.out.1, HZ.out.2]; rfl); have kb9 := he9.get H8.out.2.1 (by show ¬ wr.heap.size = lv; omega); have v9 : w9.cell? ⟨wr.heap.size, 1, none⟩ = some (.int .i64 0) := (cell_of_blk kb9 1).trans rfl; have v9' : w9.frozen? ⟨wr.heap.size, 1, none⟩ = false := frozen_of_blk kb9 1; have H9 := Sealed.mk (And.intro e9 (And.intro hl9 kb9)); clear e9 hl9 kb9 hk9 hown9 he9 epa))
                    obtain ⟨W10, hW10⟩ : ∃ W10, W10 = w9.setCell ⟨wr.heap.size, 1, none⟩ (.int .i64 (iz : Int)) := ⟨_, rfl⟩
                    rw [← hW10]
                    have e10 : Ext (fun q => q = lv) wr W10 := by rw [hW10]; exact H9.out.1.setCell (p := ⟨wr.heap.size, 1, none⟩) (.inr (Nat.le_refl _)) _
                    have x10 : Ext (fun q => q = wr.heap.size) w9 W10 := by rw [hW10]; exact (Ext.refl (fun q => q = wr.heap.size) w9).setCell (p := ⟨wr.heap.size, 1, none⟩) (.inl rfl) _
                    have hleft10 : LeftAt W10 lv (two2 l').2 := H9.out.2.1.keep x10 (by omega) (fun q hq => by
                      rintro ⟨cs, fz, e⟩
                      rw [hq, H9.out.2.2] at e
                      simp only [Option.some.injEq, Obj.cells.injEq] at e
                      exact absurd e.2.1 (by decide))
                    have kb10 : W10.heap[wr.heap.size]? = some (.cells #[.bool m, .int .i64 (iz : Int)] 98 (0, 0)) := by rw [hW10, blk_setCell H9.out.2.2 1 _]; rfl
                    have y0 : W10.cell? ⟨wr.heap.size, 0, none⟩ = some (.bool m) := (cell_of_blk kb10 0).trans rfl
                    have y1 : W10.cell? ⟨wr.heap.size, 1, none⟩ = some (.int .i64 (iz : Int)) := (cell_of_blk kb10 1).trans rfl
                    have hk10 := HK.out.1.read e10 hleft10
                    have hown10 := hk10.own
                    rw [HK.out.2.2.1] at hown10
                    have H10 := Sealed.mk (And.intro hk10 hown10); clear hk10 hown10 hleft10 kb10 e10 x10 v9 v9' c9
                    have HW10 := Sealed.mk hW10; clear hW10
                    have hlvz : lv + 1 ≤ W10.heap.size := by
                      obtain ⟨_, _, q, -, -⟩ := H10.out.1.ld.left.var
                      exact lt_of_blk q
                    go_wp2_with (at_builtin; go_must (refine ap_litp (m := 1) el_term (.tmp 71) (.tmp 73) rfl rfl rfl H10.out.2 rfl (by simp) rfl (by decide) ?g1 ?g2 ?g3 ?g4))
                    case g1 => simp [Value.oneCell']
                    case g2 => omega
                    case g3 => exact hlvz
                    case g4 =>
                      intro g11 c11 w11 ho11 hg11 hn11
                      have H11 := Sealed.mk (And.intro ho11 (And.intro hg11 hn11)); clear ho11 hg11 hn11
                      go_wp2_with fail
                      go_roundg (n - (k + 1))
                      case measure => omega
                      case rel =>
                        obtain ⟨hlk, htrk, htlk, hs0, hm, -⟩ := HK.out
                        refine ⟨k + 1, tl ++ [(decide (s = 1), z)], _, _, _, rfl, by omega, by push_cast; rfl, rfl, by rw [List.length_append, htlk]; rfl, ?_, htrk.next hkn H8.out.2.2.2.1.symm HZ.out.1⟩
                        rw [← hm]
                        refine H10.out.1.push (List.mem_of_getElem? HZ.out.1) H11.out.2.1 H11.out.2.2 ?_
                        rw [htlk, ← HZ.out.2]
                        exact H11.out.1
            · have hkk : k = n := by omega
              subst hkk
              obtain ⟨hfz, htr2⟩ := htrk.done
              have hown := hlk.own
              rw [htlk] at hown
              have hel : (encZ vs1 tl).length = k := by rw [encZ_length, htlk]
              have htl : TL wr (.slice ra k rc) (encZ vs1 tl) := TL.of_own (by rw [hel]; exact hown) (by rw [hel]; omega)
              have hfm := formed_any hlk.ld.inv htl (fun t ht => hlk.ld.mem _ (hlk.mem t ht)) (fun q hq => (hlk.free q hq).1.1) (fun t ht h0 => goodN_next hlk.ld.good (by rw [show ((t.2.toNat : Nat) : Int) = t.2 by omega]; exact hlk.mem t ht))
              rw [hlk.ld.p] at hfm
              have HFM := Sealed.mk hfm; clear hfm
              have HK := Sealed.mk (And.intro hlk (And.intro hfz (And.intro htr2 (And.intro htlk (And.intro hown (And.intro hel htl)))))); clear hlk hfz htr2 htlk hown hel htl htrk
              go_upto_region 26 with fail
              go_cut [79] (fun v79 wx => ∃ vs2 b2 d, v79 = .bool (!d) ∧ (d = true ↔ FormedZ tl) ∧ WStep (ldU nums) wr wx b1 b2 vs1 vs2 ∧ FStep noB wr wx b1 b2 vs1 vs2)
              case first =>
                go_wp2_with (go_at_call 54; go_must (refine HFM.out.mono ?_; rintro e w9 ⟨vs2, b2, d, rfl, hd, hs, hf⟩; have H9 := Sealed.mk (And.intro hd (And.intro hs hf)); clear hd hs hf))
                go_meet
                case rel => exact ⟨vs2, b2, d, rfl, H9.out.1, H9.out.2.1, H9.out.2.2⟩
              case rest =>
                obtain ⟨vs2, b2, d, rfl, hd, hs, hf⟩ := hcut
                cases d with
                | false =>
                  have hno : ¬ ∃ x, Allowed x ∧ bytesN x = l0 := fun hx => by have := hd.2 (HK.out.2.1 hx); simp at this
                  have hld2 := HK.out.1.ld.step rfl hs hf
                  obtain ⟨p1, p2, p3, p4⟩ := ld_put hld2.below hld2.res none
                  have HP := Sealed.mk (And.intro hno (And.intro p3 p4)); clear hno hld2 hs hf hd p3 p4
                  simp only [Bool.not_false]
                  go_wp2_with fail
                  refine bodyPost_ret (v := .tuple #[.agg #[.pointer none], .int .i64 2]) (by simp [results, Try.results18, go_sem, HP.out.2.1]) rfl ⟨none, 2, rfl, HP.out.2.2, .inr ⟨HP.out.1, rfl, rfl⟩⟩
                | true =>
                  have hfo := hd.1 rfl
                  have hld2 := HK.out.1.ld.step rfl hs hf
                  have hnl3 : nums.length ≤ 2999 := by have := HJ.out.2.2.1; omega
                  have hinv2 := hld2.grow hnl3 (zval tl)
                  have hencp : encZ vs2 tl = encZ vs1 tl := encZ_prefix hs.pre fun t ht => HK.out.1.ld.mem _ (HK.out.1.mem t ht)
                  have hfree2 : ∀ q, (Value.slice ra k rc).ownBlock = some q → WFree wc b2 vs2 q := fun q hq => hf q (HK.out.1.own.lt q hq).2 (fun e => e) (HK.out.1.free q hq).1
                  have htl2 : TL wc (.slice ra k rc) (enc vs2 (zval tl)) := by
                    rw [encZ_enc hfo, hencp]
                    exact HK.out.2.2.2.2.2.2.ext hs.ext (fun q hq => (HK.out.1.free q hq).1.1)
                  have hcov2 : Cov vs2 (zval tl) := fun t ht => by
                    obtain ⟨s, hs', e⟩ := exps_zval hfo (mem_exps.2 ⟨t, ht, rfl⟩)
                    rw [← e]
                    exact hs.pre.subset (HK.out.1.ld.mem _ (HK.out.1.mem s hs'))
                  have hid := id_any hinv2 htl2 hcov2 (ldU_mem (by simp)) (fun q hq => (hfree2 q hq).1)
                  rw [hld2.p] at hid
                  have HID := Sealed.mk hid; clear hid
                  have H9 := Sealed.mk (And.intro hld2 (And.intro hfo hfree2)); clear hld2 hfo hfree2 hs hf hd hinv2 hencp htl2 hcov2
                  simp only [Bool.not_true]
                  go_wp2_with (first
                    | (go_at_call 55; go_must (refine HID.out.mono ?_; rintro e w10 ⟨vs3, b3, rfl, hx3, hs3, hf3⟩; have hown3 := own_ext H9.out.1.own hs3.ext (fun q hq => (H9.out.1.free q hq).1); rw [HJ.out.2.2.1] at hown3; obtain ⟨iy, hiy⟩ : ∃ iy, iy = vs3.idxOf (zval tl) := ⟨_, rfl⟩; rw [← hiy]; have H10 := Sealed.mk (And.intro hx3 (And.intro hs3 (And.intro hf3 (And.intro hown3 hiy)))); clear hx3 hs3 hf3 hown3 hiy))
                    | (at_builtin; go_must (refine ap_litp (m := 1) el_int (.tmp 81) (.tmp 85) rfl rfl rfl H10.out.2.2.2.1 rfl (by simp) rfl (by decide) ?g1 ?g2 ?g3 ?g4)))
                  case g1 => simp [Value.oneCell']
                  case g2 => omega
                  case g3 =>
                    have h1 := H10.out.2.1.ext.size
                    obtain ⟨_, _, q, -, -⟩ := H9.out.1.left.var
                    have := lt_of_blk q
                    omega
                  case g4 =>
                    intro g11 c11 w11 ho11 hg11 hn11
                    have H11 := Sealed.mk (And.intro ho11 (And.intro hg11 hn11)); clear ho11 hg11 hn11
                    go_wp2_with fail
                    go_roundg (c - (j + 1))
                    case measure => omega
                    case rel =>
                      refine ⟨j + 1, nums ++ [zval tl], vs3, _, b3, _, _, rfl, by omega, by push_cast; rfl, rfl, by rw [List.length_append, HJ.out.2.2.1]; rfl, ?_, HK.out.2.2.1⟩
                      refine H9.out.1.push H10.out.2.1 H10.out.2.2.1 (fun q hq => ⟨(HK.out.1.free q hq).2, fun e => by have := (HK.out.1.own.lt q hq).1; omega⟩) H10.out.1 (by rw [wl_zval H9.out.2.1, HK.out.2.2.2.1]; exact hn3) (fun e he => ?_) H11.out.2.1 H11.out.2.2 ?_
                      · obtain ⟨s, hs', e'⟩ := exps_zval H9.out.2.1 he
                        rw [← e']
                        exact HK.out.1.mem s hs'
                      · rw [HJ.out.2.2.1, ← H10.out.2.2.2.2]
                        exact H11.out.1
      · have hjeq : j = c := by omega
        subst hjeq
        obtain ⟨c', rfl⟩ : ∃ c', j = c' + 1 := ⟨j - 1, by omega⟩
        obtain ⟨y, hy⟩ : ∃ y, nums[c']? = some y := ⟨_, List.getElem?_eq_getElem (by omega)⟩
        have hlast : ∀ x, Allowed x → bytesN x = l0 → y = x := fun x hx hb => htr.last hnj hx hb hy
        have hyv := hld.mem y (List.mem_of_getElem? hy)
        have hown := hld.own
        rw [hnj] at hown
        obtain ⟨pg, pcap, epa⟩ := own_form hown (by omega)
        obtain ⟨rfl, -, rfl⟩ := Value.slice.inj epa
        obtain ⟨iy, hiy⟩ : ∃ iy, iy = vs1.idxOf y := ⟨_, rfl⟩
        have g0 : wr.drew.cell? ⟨pg, c', none⟩ = some (.int .i64 (iy : Int)) := own_cell hown rfl (by unfold icells; rw [List.getElem?_map, List.getElem?_map, hy, hiy]; rfl)
        have hi' : vs1[iy]? = some y := by rw [hiy]; exact idxOf_get hyv
        obtain ⟨nv, hnv⟩ : ∃ nv, nv = vs1.length := ⟨_, rfl⟩
        have hil : iy < nv := by rw [hnv]; exact (List.getElem?_eq_some_iff.1 hi').1
        have hiz : (0 : Int) ≤ (iy : Int) := by omega
        have hil2 : (iy : Int) < (nv : Int) := by omega
        obtain ⟨cap, cur, f1, f2, f3, f4, f5, f6⟩ := hld.inv.forms
        obtain ⟨fv, q1, t1, o1⟩ := f6 iy y hi'
        obtain ⟨fa, fn, fc, efv⟩ := t1.slice
        subst efv
        have c0w : wr.cell? ⟨b.p, 0, none⟩ = some (.slice (some ⟨b1.f, 0, none⟩) nv cap) := by rw [← hld.p, hnv]; exact (cell_of_blk f1 0).trans rfl
        have c1w : wr.cell? ⟨b1.f, iy, none⟩ = some (.slice fa fn fc) := (cell_of_blk f2 iy).trans q1
        have hmk : ∀ V, Ext noB wr V → LD w V b.p lv nums vs1 b1 (.slice (some ⟨pg, 0, none⟩) (c' + 1) pc) left ∧ V.cell? ⟨pg, c', none⟩ = some (.int .i64 (iy : Int)) ∧ V.cell? ⟨b.p, 0, none⟩ = some (.slice (some ⟨b1.f, 0, none⟩) nv cap) ∧ V.cell? ⟨b1.f, iy, none⟩ = some (.slice fa fn fc) ∧ Calls Try.prog 56 #[.pointer (some ⟨b.p, 0, none⟩), .slice fa fn fc] V (GiveOut (ldU nums) V b1 vs1 y) := fun V hV => by
          have hldd := hld.same hV
          have hgv := give_any hldd.inv (t1.ext hV (fun _ _ h => h)) (hldd.inv.cl.cov hyv)
          rw [hld.p] at hgv
          exact ⟨hldd, (cell_same (hV.block _ (lt_of_cell (w := wr) g0) (fun h => h)) _).trans g0, (cell_same (hV.block _ (lt_of_cell c0w) (fun h => h)) _).trans c0w, (cell_same (hV.block _ (lt_of_cell c1w) (fun h => h)) _).trans c1w, hgv⟩
        obtain ⟨hldd, gd, c0, c1, hgv⟩ := hmk wr.drew (Ext.refl noB wr).drew
        obtain ⟨hlda, ga, c0a, c1a, hgva⟩ := hmk (wr.alloc (.cells #[.pointer none] 30)).drew ((Ext.refl noB wr).alloc _).drew
        have kba : (wr.alloc (.cells #[.pointer none] 30)).drew.heap[wr.heap.size]? = some (.cells #[.pointer none] 30 (0, 0)) := blk_alloc wr _
        have hr3 : b1.r3 < wr.heap.size := hld.inv.lt _ (.inr (.inr (.inr (.inr rfl))))
        have hw1 : IntKind.i64.wrap ((c' : Int) + 1 - 1) = (c' : Int) := by rw [IntKind.wrap_i64]; omega
        have hw2 : IntKind.i64.wrap (c' : Int) = (c' : Int) := by rw [IntKind.wrap_i64]; omega
        have hcc : c' < c' + 1 := by omega
        have hcz : (0 : Int) ≤ (c' : Int) := by omega
        have hcc2 : (c' : Int) < (c' : Int) + 1 := by omega
        have HGV := Sealed.mk hgv; clear hgv
        have HGVA := Sealed.mk hgva; clear hgva
        have HJ := Sealed.mk (And.intro hldd (And.intro hlast (And.intro hlda (And.intro kba hr3)))); clear hld htr hnj hy hlast hyv hown epa hiy hi' hnv hldd hmk hlda kba hr3 f1 f2 f3 f4 f5 f6 q1 t1 o1 c0w c1w
        go_upto_region 30 with fail
        go_cut [13, 14] (fun v13 v14 wx => ∃ (bx : Nat) (p : Option Addr) (er : Int), v13 = .pointer (some ⟨bx, 0, none⟩) ∧ v14 = .int .i64 er ∧ wx.heap[bx]? = some (.cells #[.pointer p] 30 (0, 0)) ∧ Below w.heap.size w wx ∧ wx.heap[w.heap.size]? = some (.cells #[.pointer none] 30 (0, 0)) ∧ ((Allowed y ∧ er = 0 ∧ NumIs wx (.agg #[.pointer p]) y) ∨ (¬ Allowed y ∧ p = none ∧ er = 5)))
        case first =>
          go_region_law
            (go_simp; go_at_call 56; go_must (first
              | (with_reducible refine HGV.out.mono ?_; rintro e9 w9 h9; obtain ⟨pp, er, rfl, hi9, hx9, hres⟩ := h9.told; have H9 := Sealed.mk (And.intro hx9 hres); clear hx9 hres hi9 h9)
              | (with_reducible refine HGVA.out.mono ?_; rintro e9 w9 h9; obtain ⟨pp, er, rfl, hi9, hx9, hres⟩ := h9.told; have hz9 := hx9.get HJ.out.2.2.2.1 (fun h => by have := HJ.out.2.2.2.2; have h' : wr.heap.size = b1.r3 := h; omega); have k9 : w9.cell? ⟨wr.heap.size, 0, none⟩ = some (.pointer none) := (cell_of_blk hz9 0).trans rfl; have k9' : w9.frozen? ⟨wr.heap.size, 0, none⟩ = false := frozen_of_blk hz9 0; have HA9 := Sealed.mk (And.intro hx9 (And.intro hres hz9)); clear hx9 hres hi9 h9 hz9)); try go_simp)
          all_goals
            go_wp2_with fail
            go_meet
            case rel =>
              have hM := HJ.out.1.mge b1.r3 (.inr (.inr (.inr (.inr rfl))))
              first
                | (obtain ⟨hx9, hres⟩ := H9.out
                   have e9 : Ext noB w9 (w9.alloc (.cells #[.pointer pp] 30)) := (Ext.refl noB w9).alloc _
                   refine ⟨w9.heap.size, pp, er, rfl, rfl, blk_alloc _ _, below_ext (below_ext HJ.out.1.below hx9 (fun q hq => by omega)) e9 (fun _ h => h.elim), blk_alloc_old (hx9.get HJ.out.1.res (fun h => by have : w.heap.size = b1.r3 := h; omega)) _, ?_⟩
                   rcases hres with ⟨h1, h2, h3⟩ | h
                   · exact .inl ⟨h1, h2, h3.below e9.below⟩
                   · exact .inr h)
                | (obtain ⟨hx9, hres, hz9⟩ := HA9.out
                   have hlt9 := lt_of_blk hz9
                   have hwr : w.heap.size < wr.heap.size := by have := HJ.out.2.2.2.2; omega
                   have e9 : Ext (fun q => q = wr.heap.size) w9 (w9.setCell ⟨wr.heap.size, 0, none⟩ (.pointer pp)) := (Ext.refl (fun q => q = wr.heap.size) w9).setCell (p := ⟨wr.heap.size, 0, none⟩) (.inl rfl) _
                   refine ⟨wr.heap.size, pp, er, rfl, rfl, by rw [blk_setCell hz9 0 _]; rfl, below_ext (below_ext HJ.out.2.2.1.below hx9 (fun q hq => by omega)) e9 (fun q hq => by omega), e9.get (hx9.get HJ.out.2.2.1.res (fun h => by have : w.heap.size = b1.r3 := h; omega)) (by show ¬ w.heap.size = wr.heap.size; omega), ?_⟩
                   rcases hres with ⟨h1, h2, h3⟩ | h
                   · exact .inl ⟨h1, h2, h3.other hz9 e9⟩
                   · exact .inr h)
        case rest =>
          obtain ⟨bx, p, er, rfl, rfl, hbx, hbl, hres, hcase⟩ := hcut
          obtain ⟨p1, p2, p3, p4⟩ := ld_put hbl hres none
          have hc13 : wc.cell? ⟨bx, 0, none⟩ = some (.pointer p) := (cell_of_blk hbx 0).trans rfl
          clear g0 c0 c1 gd ga c0a c1a
          rcases hcase with ⟨hA, rfl, hN⟩ | ⟨hA, rfl, rfl⟩
          · have hby := Bytes_any hN
            have hrb := bytesN_range hA
            have hlb := bytesN_length hA
            have HBY := Sealed.mk hby; clear hby
            have hve : ∀ W, Below wc.heap.size wc W → BytesAt W (.slice va nl vc) l0 := fun W hb => by
              have := H.out.1.below (below_chain hbl hb)
              rw [← H.out.2.2] at this
              exact this
            have HVE := Sealed.mk hve; clear hve
            have HF := Sealed.mk (And.intro hA (And.intro hN (And.intro hbx (And.intro hbl (And.intro hres (And.intro p3 p4)))))); clear hA hN hbx hbl hres p3 p4 p1 p2
            by_cases hq : bytesN y = l0
            · have HQ := Sealed.mk hq
              have hd : decide (bytesN y = l0) = true := decide_eq_true hq
              clear hq
              go_wp2_with (first
                | (go_at_call 23; go_must (refine HBY.out.mono ?_; rintro e w9 ⟨ab, cb, rfl, ho9, hb9⟩; have hbe := bytesEqual_any (BytesAt.of_own ho9 hrb (by omega)) (HVE.out w9 hb9); rw [hd] at hbe; have HBE := Sealed.mk hbe; have k13 : w9.cell? ⟨bx, 0, none⟩ = some (.pointer p) := (cell_same (hb9.block _ (lt_of_blk HF.out.2.2.1)) 0).trans hc13; obtain ⟨p1, p2, p3, p4⟩ := ld_put (below_chain HF.out.2.2.2.1 hb9) ((hb9.block _ (lt_of_blk HF.out.2.2.2.2.1)).trans HF.out.2.2.2.2.1) p; have H9 := Sealed.mk (And.intro hb9 (And.intro p3 p4)); clear hbe ho9 hb9 p3 p4))
                | (go_at_call 57; go_must (refine HBE.out.mono ?_; rintro e w10 ⟨rfl, rfl⟩)))
              refine bodyPost_ret (v := .tuple #[.agg #[.pointer p], .int .i64 0]) (by simp [results, Try.results18, go_sem, H9.out.2.1]) rfl ⟨p, 0, rfl, H9.out.2.2, .inl ⟨y, HF.out.1, HQ.out, rfl, ?_⟩⟩
              exact (HF.out.2.1.below H9.out.1).other ((H9.out.1.block _ (lt_of_blk HF.out.2.2.2.2.1)).trans HF.out.2.2.2.2.1) ((Ext.refl (fun k => k = w.heap.size) _).setCell (p := ⟨w.heap.size, 0, none⟩) (.inl rfl) _)
            · have hno : ¬ ∃ x, Allowed x ∧ bytesN x = l0 := fun ⟨x, hx, hb⟩ => hq (by rw [HJ.out.2.1 x hx hb]; exact hb)
              have HNO := Sealed.mk hno; clear hno
              have hd : decide (bytesN y = l0) = false := decide_eq_false hq
              clear hq
              go_wp2_with (first
                | (go_at_call 23; go_must (refine HBY.out.mono ?_; rintro e w9 ⟨ab, cb, rfl, ho9, hb9⟩; have hbe := bytesEqual_any (BytesAt.of_own ho9 hrb (by omega)) (HVE.out w9 hb9); rw [hd] at hbe; have HBE := Sealed.mk hbe; obtain ⟨p1, p2, p3, p4⟩ := ld_put (below_chain HF.out.2.2.2.1 hb9) ((hb9.block _ (lt_of_blk HF.out.2.2.2.2.1)).trans HF.out.2.2.2.2.1) none; have H9 := Sealed.mk (And.intro hb9 (And.intro p3 p4)); clear hbe ho9 hb9 p3 p4))
                | (go_at_call 57; go_must (refine HBE.out.mono ?_; rintro e w10 ⟨rfl, rfl⟩)))
              refine bodyPost_ret (v := .tuple #[.agg #[.pointer none], .int .i64 2]) (by simp [results, Try.results18, go_sem, H9.out.2.1]) rfl ⟨none, 2, rfl, H9.out.2.2, .inr ⟨HNO.out, rfl, rfl⟩⟩
          · have hno : ¬ ∃ x, Allowed x ∧ bytesN x = l0 := fun ⟨x, hx, hb⟩ => hA (by rw [HJ.out.2.1 x hx hb]; exact hx)
            have HP := Sealed.mk (And.intro hno (And.intro p3 p4)); clear hno hA hbx hbl hres p3 p4
            go_wp2_with fail
            refine bodyPost_ret (v := .tuple #[.agg #[.pointer none], .int .i64 2]) (by simp [results, Try.results18, go_sem, HP.out.2.1]) rfl ⟨none, 2, rfl, HP.out.2.2, .inr ⟨HP.out.1, rfl, rfl⟩⟩
end Go.Proofs.Ytgchfbfgjanaiaa
