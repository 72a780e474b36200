/-
  slices.ContainsFunc as Sum calls it; (num.N).Sum
  (num.N).Height and its closure
  a part as a number: which parts it has, plain; its closure
-/
import Derived.Test.YtgchfbfgjanaiaaJ26
import Derived.Test.YtgchfbfgjanaiaaJ25
import Derived.Deep.RegionHeld3
import Derived.Test.YtgchfbfgjanaiaaJ04
import Derived.Deep.LoopGhost
import Derived.Deep.DeepCutAuto
import Derived.Deep.QuietTactic
import Derived.BigQuiet
import Derived.Laws.OwnMore
import Derived.Test.YtgchfbfgjanaiaaJ07
set_option linter.unusedSimpArgs false
set_option linter.unusedVariables false
namespace Go.Proofs.Ytgchfbfgjanaiaa
open Go.RowKit Sr
set_option maxRecDepth 100000 in
set_option maxHeartbeats 4000000 in
theorem sumC_any {w : World} {m : Bool} {p : Option Addr} {x : Int} (h : NumIs w (.agg #[.pointer p]) x) : Calls Try.prog 72 #[.agg #[.bool m, .pointer p]] w fun e w' => e = .returned (.bool (decide (x < 0))) ∧ Below w.heap.size w w' := by
  have b1 : Below w.heap.size w (w.alloc (.cells #[.bool m, .pointer p] 47)) := (Below.refl _ _).alloc (Nat.le_refl _) _
  have hs := Sign_any (h.below b1)
  have HS := Sealed.mk hs; clear hs
  go_enter Try.func72, Try.ntmps72
  go_wp2_with (go_at_call 42; go_must (refine HS.out.mono ?_; rintro e w1 ⟨rfl, hb⟩; have HB := Sealed.mk hb; clear hb))
  go_ret
  refine ⟨show Ending.returned (.bool (decide (sg x < 0))) = _ from ?_, b1.trans ⟨HB.out.os, HB.out.tape, HB.out.output, HB.out.size, fun q hq => HB.out.block q (by simp; omega)⟩⟩
  congr 2
  apply decide_eq_decide.2
  unfold sg
  split
  · simp; omega
  · split <;> simp <;> omega
set_option maxRecDepth 100000 in
set_option maxHeartbeats 4000000 in
theorem indexFunc_any {w : World} {v : Value} {l : List (Bool × Int)} (h : TermsAt w v l) : Calls Try.prog 99 #[v, .func (.func 72) #[] #[]] w fun e w' => ∃ r : Int, e = .returned (.int .i64 r) ∧ (0 ≤ r ↔ ∃ t ∈ l, t.2 < 0) ∧ Below w.heap.size w w' := by
  obtain ⟨hlen, hlt, a, c, rfl, hc, hr⟩ := h
  obtain ⟨n, hn⟩ : ∃ n, n = l.length := ⟨_, rfl⟩
  rw [← hn] at hlen hc ⊢
  have hnc : n ≤ c := hc
  have HR := Sealed.mk (And.intro hlt (And.intro hr hn)); clear hlt hr hn hc
  go_enter Try.func99, Try.ntmps99
  go_wp2_with fail
  go_loopg [8] n (fun j iv W => ∃ k : Nat, j = n - k ∧ k ≤ n ∧ iv = .int .i64 (k : Int) ∧ Below w.heap.size w W ∧ ∀ t ∈ l.take k, ¬ t.2 < 0)
  case atStart => exact ⟨0, rfl, Nat.zero_le _, rfl, Below.refl _ _, by simp⟩
  case round =>
    obtain ⟨k, rfl, hk, rfl, hb, hno⟩ := hrel
    by_cases hkn : k < n
    · obtain ⟨⟨m, x⟩, ht⟩ : ∃ t, l[k]? = some t := ⟨_, List.getElem?_eq_getElem (by have := HR.out.2.2; omega)⟩
      obtain ⟨b, o, rfl, hcell⟩ := HR.out.2.1 (fun hh => by rw [hh] at ht; simp at ht)
      obtain ⟨p, q1, q2, q3⟩ := hcell k _ ht
      have hlt := HR.out.1 b rfl
      have k0 : wr.cell? ⟨b, o + k * 2, none⟩ = some (.bool m) := (cell_same (hb.block b hlt) _).trans q1
      have k1 : wr.cell? ⟨b, o + k * 2 + 1, none⟩ = some (.pointer p) := (cell_same (hb.block b hlt) _).trans q2
      have hsc := sumC_any (m := m) (q3.below hb)
      have HSC := Sealed.mk hsc; clear hsc
      have HB := Sealed.mk (And.intro hb (And.intro hno ht)); clear hb hno ht q1 q2 q3 hcell
      by_cases hneg : x < 0
      · have hd : decide (x < 0) = true := by simp [hneg]
        simp only at HSC
        rw [hd] at HSC
        have HN := Sealed.mk hneg; clear hneg hd
        go_wp2_with (go_at_call 72; go_must (refine HSC.out.mono ?_; rintro e w1 ⟨rfl, hb1⟩; have HB1 := Sealed.mk hb1; clear hb1))
        go_ret
        have hb1 := HB1.out
        exact ⟨(k : Int), rfl, ⟨fun _ => ⟨_, List.mem_of_getElem? HB.out.2.2, HN.out⟩, fun _ => by omega⟩, HB.out.1.trans ⟨hb1.os, hb1.tape, hb1.output, hb1.size, fun q hq => hb1.block q (by have := HB.out.1.size; omega)⟩⟩
      · have hd : decide (x < 0) = false := by simp only [hneg, decide_false]
        simp only at HSC
        rw [hd] at HSC
        have HN := Sealed.mk hneg; clear hneg hd
        go_wp2_with (go_at_call 72; go_must (refine HSC.out.mono ?_; rintro e w1 ⟨rfl, hb1⟩; have HB1 := Sealed.mk hb1; clear hb1))
        go_roundg (n - (k + 1))
        case measure => omega
        case rel =>
          have hb1 := HB1.out
          refine ⟨k + 1, rfl, by omega, by push_cast; rfl, HB.out.1.trans ⟨hb1.os, hb1.tape, hb1.output, hb1.size, fun q hq => hb1.block q (by have := HB.out.1.size; omega)⟩, fun t ht => ?_⟩
          rw [take_snoc HB.out.2.2] at ht
          rcases List.mem_append.1 ht with ht | ht
          · exact HB.out.2.1 t ht
          · simp at ht; subst ht; exact HN.out
    · have hkk : k = l.length := by have := HR.out.2.2; omega
      rw [hkk, List.take_length] at hno
      have HB := Sealed.mk (And.intro hb hno); clear hb hno hkk
      go_wp2_with fail
      go_ret
      exact ⟨-1, rfl, ⟨fun h => absurd h (by decide), fun h => by rcases h with ⟨b, hb, h⟩ | ⟨b, hb, h⟩ <;> (have := HB.out.2 _ hb; simp only at this; omega)⟩, HB.out.1⟩
set_option maxRecDepth 100000 in
set_option maxHeartbeats 4000000 in
theorem containsFunc_any {w : World} {v : Value} {l : List (Bool × Int)} (h : TermsAt w v l) {d : Bool} (hd : d = true ↔ ∃ t ∈ l, t.2 < 0) : Calls Try.prog 71 #[v, .func (.func 72) #[] #[]] w fun e w' => e = .returned (.bool d) ∧ Below w.heap.size w w' := by
  have hi := indexFunc_any h
  obtain ⟨_, _, a, c, rfl, _⟩ := h
  have HI := Sealed.mk hi; clear hi
  have HD := Sealed.mk hd; clear hd
  go_enter Try.func71, Try.ntmps71
  go_wp2_with (go_at_call 99; go_must (refine HI.out.mono ?_; rintro e w1 ⟨r, rfl, hr, hb⟩; have HB := Sealed.mk (And.intro hr hb); clear hr hb))
  go_ret
  refine ⟨show Ending.returned (.bool (decide (0 ≤ r))) = _ from ?_, HB.out.2⟩
  have h1 := HB.out.1
  have h2 := HD.out
  by_cases h0 : 0 ≤ r
  · rw [decide_eq_true h0]
    rw [h2.2 (h1.1 h0)]
  · rw [decide_eq_false h0]
    cases d
    · rfl
    · exact absurd (h1.2 (h2.1 rfl)) h0
def SumOut (w : World) (l : List (Bool × Int)) (e : Ending) (w' : World) : Prop :=
  ∃ p er, e = .returned (.tuple #[.agg #[.pointer p], .int .i64 er]) ∧ Below w.heap.size w w' ∧
    (((∃ t ∈ l, t.2 < 0) ∧ p = none ∧ er = 1) ∨
     ((∀ t ∈ l, 0 ≤ t.2) ∧ 1000 < l.length ∧ p = none ∧ er = 5) ∨
     ((∀ t ∈ l, 0 ≤ t.2) ∧ l.length ≤ 1000 ∧ ((Allowed (termsV l) ∧ er = 0 ∧ NumIs w' (.agg #[.pointer p]) (termsV l)) ∨ (¬ Allowed (termsV l) ∧ p = none ∧ er = 5))))
theorem TermsAt.allowed {w : World} {v : Value} {l : List (Bool × Int)} (h : TermsAt w v l) : ∀ t ∈ l, Allowed t.2 := fun t ht => by
  obtain ⟨_, _, a, c, _, _, hr⟩ := h
  obtain ⟨i, hi⟩ := List.getElem?_of_mem ht
  obtain ⟨b, o, _, hc⟩ := hr (fun hh => by rw [hh] at ht; simp at ht)
  obtain ⟨p, _, _, h3⟩ := hc i t hi
  exact h3.1
set_option maxRecDepth 100000 in
set_option maxHeartbeats 4000000 in
theorem Sum_any {w : World} {v : Value} {l : List (Bool × Int)} (h : TermsAt w v l) : Calls Try.prog 27 #[v] w (SumOut w l) := by
  have hal := h.allowed
  obtain ⟨W1, hW1⟩ : ∃ W1, W1 = w.alloc (.cells #[.pointer none] 30) := ⟨_, rfl⟩
  have b1 : Below w.heap.size w W1 := by rw [hW1]; exact (Below.refl _ _).alloc (Nat.le_refl _) _
  have s1 : W1.heap.size = w.heap.size + 1 := by rw [hW1]; simp
  have x1 : W1.heap[w.heap.size]? = some (.cells #[.pointer none] 30 (0, 0)) := by rw [hW1]; exact blk_alloc _ _
  obtain ⟨d, hd⟩ : ∃ d : Bool, d = true ↔ ∃ t ∈ l, t.2 < 0 := by
    by_cases h : ∃ t ∈ l, t.2 < 0
    · exact ⟨true, by simpa using h⟩
    · exact ⟨false, by simp only [Bool.false_eq_true, false_iff]; exact h⟩
  have hcf := containsFunc_any (h.below b1) hd
  rw [hW1] at hcf
  obtain ⟨hlen, hlt, a, c, rfl, hc, hr⟩ := h
  obtain ⟨n, hn⟩ : ∃ n, n = l.length := ⟨_, rfl⟩
  rw [← hn] at hlen hc hcf ⊢
  have HCF := Sealed.mk hcf; clear hcf
  have HD := Sealed.mk hd; clear hd
  have HR := Sealed.mk (And.intro hlt (And.intro hr (And.intro hn hal))); clear hlt hr hn hal
  have HX := Sealed.mk (And.intro hW1 (And.intro b1 (And.intro s1 x1))); clear hW1 b1 s1 x1
  have hput : ∀ (W : World) (pp : Option Addr), Below W1.heap.size W1 W → Below w.heap.size w (W.setCell ⟨w.heap.size, 0, none⟩ (.pointer pp)) ∧ W.cell? ⟨w.heap.size, 0, none⟩ = some (.pointer none) ∧ W.frozen? ⟨w.heap.size, 0, none⟩ = false ∧ (W.setCell ⟨w.heap.size, 0, none⟩ (.pointer pp)).cell? ⟨w.heap.size, 0, none⟩ = some (.pointer pp) ∧ W.heap[w.heap.size]? = some (.cells #[.pointer none] 30 (0, 0)) := fun W pp hb => by
    have z := (hb.block _ (lt_of_blk HX.out.2.2.2)).trans HX.out.2.2.2
    exact ⟨(below_chain HX.out.2.1 hb).setCell (p := ⟨w.heap.size, 0, none⟩) (Nat.le_refl _) _, (cell_of_blk z 0).trans rfl, frozen_of_blk z 0, by rw [cell_of_blk (blk_setCell z 0 _)]; rfl, z⟩
  have HPUT := Sealed.mk hput; clear hput
  cases d
  case true =>
    go_enter Try.func27, Try.ntmps27
    go_wp2_with (go_at_call 71; go_must (refine HCF.out.mono ?_; rintro e w2 ⟨rfl, hb2⟩; rw [← HX.out.1] at hb2; obtain ⟨q1, q2, q3, q4, q5⟩ := HPUT.out w2 none hb2; have H2 := Sealed.mk (And.intro q1 q4); clear q1 q4 q5 hb2))
    refine bodyPost_ret (v := .tuple #[.agg #[.pointer none], .int .i64 1]) (by simp [results, Try.results27, go_sem, H2.out.2]) rfl ⟨none, 1, rfl, H2.out.1, .inl ⟨by first | exact HD.out.1 trivial | exact HD.out.1 rfl, rfl, rfl⟩⟩
  case false =>
    have h0 : ∀ t ∈ l, 0 ≤ t.2 := fun t ht => by
      have := HD.out
      simp only [Bool.false_eq_true, false_iff] at this
      have h1 : ¬ t.2 < 0 := fun hh => this ⟨t, ht, hh⟩
      omega
    have H0 := Sealed.mk h0; clear h0
    by_cases hbig : 1000 < n
    · go_enter Try.func27, Try.ntmps27
      go_wp2_with (go_at_call 71; go_must (refine HCF.out.mono ?_; rintro e w2 ⟨rfl, hb2⟩; rw [← HX.out.1] at hb2; obtain ⟨q1, q2, q3, q4, q5⟩ := HPUT.out w2 none hb2; have H2 := Sealed.mk (And.intro q1 q4); clear q1 q4 q5 hb2))
      refine bodyPost_ret (v := .tuple #[.agg #[.pointer none], .int .i64 5]) (by simp [results, Try.results27, go_sem, H2.out.2]) rfl ⟨none, 5, rfl, H2.out.1, .inr (.inl ⟨H0.out, by rw [← HR.out.2.2.1]; exact hbig, rfl, rfl⟩)⟩
    · obtain ⟨U, hU⟩ : ∃ U, U = sumU l := ⟨_, rfl⟩
      have hn3 : n ≤ 1000 := by omega
      have hl3 : l.length ≤ 1000 := by rw [← HR.out.2.2.1]; exact hn3
      have hU0 : (0 : Int) ∈ U := by rw [hU]; simp [sumU]
      have hUl : U.length ≤ roomW := by rw [hU]; exact sumU_length HR.out.2.2.2 hl3
      have hUs : ∀ t ∈ l, t.2 ∈ U ∧ ∀ e, Part e t.2 → (e : Int) ∈ U := fun t ht => by rw [hU]; exact ⟨sumU_self ht (H0.out t ht), fun e he => sumU_part ht he⟩
      have hUn : ∀ p, SumAt (termsT l) p → NextIn U p := fun p hp => by rw [hU]; exact sumU_next HR.out.2.2.2 H0.out hp
      clear hU
      have HU := Sealed.mk (And.intro hU0 (And.intro hUl (And.intro hUs (And.intro hUn hl3)))); clear hU0 hUl hUs hUn hl3
      go_enter Try.func27, Try.ntmps27
      go_wp2_with (first
        | (go_at_call 71; go_must (refine HCF.out.mono ?_; rintro e w2 ⟨rfl, hb2⟩; rw [← HX.out.1] at hb2; have hnw := newWorld_any (w := w2) (U := U) HU.out.1 HU.out.2.1; have HNW := Sealed.mk hnw; have H2 := Sealed.mk hb2; clear hb2 hnw))
        | (go_at_call 52; go_must (refine HNW.out.mono ?_; rintro e w3 ⟨b, rfl, hi3, hb3, hM3⟩; have b13 := below_chain H2.out hb3; have hM : ∀ k, b.M k → w.heap.size + 1 ≤ k := fun k hk => (by have := hM3 k hk; have := HX.out.2.2.1; have := H2.out.size; omega); have H3 := Sealed.mk (And.intro hi3 (And.intro b13 hM)); clear hi3 b13 hM hb3 hM3)))
      go_loopg [5, 18] n (fun jj av iv wr => ∃ (k : Nat) (vs1 : List Int) (b1 : WB) (oa : Option Addr) (oc : Nat), jj = n - k ∧ k ≤ n ∧ iv = .int .i64 (k : Int) ∧ av = .slice oa k oc ∧ OI U w3 b [0] (.slice oa k oc) wr vs1 b1 (termsT (l.take k)).reverse)
      case atStart =>
        refine ⟨0, [0], b, none, 0, rfl, Nat.zero_le _, rfl, rfl, ?_⟩
        have := OI.start H3.out.1
        simpa [termsT] using this
      case round =>
        obtain ⟨k, vs1, b1, oa, oc, rfl, hk, rfl, rfl, hoi⟩ := hrel
        have hMM : ∀ q, b1.M q → w.heap.size + 1 ≤ q := fun q hq => by
          rcases hoi.step.news q hq with h | h
          · exact H3.out.2.2 q h
          · have := H3.out.2.1.size; have := HX.out.2.2.1; omega
        have b1r : Below W1.heap.size W1 wr := by
          have e := hoi.step.ext
          have hb := H3.out.2.1
          exact ⟨e.os.trans hb.os, e.tape.trans hb.tape, e.output.trans hb.output, Nat.le_trans hb.size e.size, fun q hq => (e.block q (by have := hb.size; omega) (fun hm => by have := H3.out.2.2 q hm; have := HX.out.2.2.1; omega)).trans (hb.block q hq)⟩
        have b0r : Below w.heap.size w wr := below_chain HX.out.2.1 b1r
        by_cases hkl : k < n
        · obtain ⟨⟨m, x⟩, ht⟩ : ∃ t, l[k]? = some t := ⟨_, List.getElem?_eq_getElem (by have := HR.out.2.2.1; omega)⟩
          have hxl := List.mem_of_getElem? ht
          obtain ⟨bb, oo, rfl, hcell⟩ := HR.out.2.1 (fun hh => by rw [hh] at ht; simp at ht)
          obtain ⟨p, q1, q2, q3⟩ := hcell k _ ht
          have hlt := HR.out.1 bb rfl
          simp only at q1 q2 q3
          have h1 : wr.cell? ⟨bb, oo + k * 2, none⟩ = some (.bool m) := (cell_same (b0r.block bb hlt) _).trans q1
          have h2 : wr.cell? ⟨bb, oo + k * 2 + 1, none⟩ = some (.pointer p) := (cell_same (b0r.block bb hlt) _).trans q2
          obtain ⟨W5, hW5⟩ : ∃ W5, W5 = wr.alloc (.cells #[.bool m, .pointer p] 47) := ⟨_, rfl⟩
          have bw5' : Below wr.heap.size wr W5 := by rw [hW5]; exact (Below.refl wr.heap.size wr).alloc (Nat.le_refl _) _
          have bw5 : Below wr.heap.size wr W5.drew := ⟨bw5'.os, bw5'.tape, bw5'.output, bw5'.size, bw5'.block⟩
          have kb : W5.drew.heap[wr.heap.size]? = some (.cells #[.bool m, .pointer p] 47 (0, 0)) := by rw [hW5]; exact blk_alloc _ _
          have k0 : W5.drew.cell? ⟨wr.heap.size, 0, none⟩ = some (.bool m) := (cell_of_blk kb 0).trans rfl
          have k1 : W5.drew.cell? ⟨wr.heap.size, 1, none⟩ = some (.pointer p) := (cell_of_blk kb 1).trans rfl
          have hx0 := H0.out _ hxl
          have hta := wtake_any (hoi.step.inv.below bw5) q3 (below_chain b0r bw5) (fun q hq => by have := hMM q hq; omega) (HU.out.2.2.1 _ hxl).2 (HU.out.2.2.1 _ hxl).1
          rw [hoi.step.p] at hta
          have HT := Sealed.mk hta; clear hta
          have HR2 := Sealed.mk (And.intro hoi (And.intro ht (And.intro bw5 (And.intro kb hx0)))); clear hoi ht bw5 bw5' kb hx0 hxl hcell q1 q2 q3 hMM b1r b0r
          go_upto_region 10 with fail
          rw [← hW5]
          have HW5 := Sealed.mk hW5; clear hW5
          go_region_law
            (first
              | (go_simp; go_at_call 69; go_must (refine HT.out.mono ?_; rintro e6 w6 ⟨vs2, b2, rfl, hin, hs, hf⟩; have hoi6 := HR2.out.1.move ((WStep.kept HR2.out.1.step.inv HR2.out.2.2.1).trans hs) ((FStep.same (X := noB) (Ext.of_below (M := noB) HR2.out.2.2.1) (HR2.out.1.step.inv.lt _ (.inr (.inl rfl))) (fun e => e)).trans hf HR2.out.2.2.1.size (fun _ e => e.elim)); have hown6 := hoi6.own; rw [List.reverse_reverse, List.length_reverse, termsT_take HR2.out.2.1] at hown6; have kb6 := hs.ext.get HR2.out.2.2.2.1 (fun hm => by have := HR2.out.1.step.inv.lt _ hm; omega); have k60 : w6.cell? ⟨wr.heap.size, 0, none⟩ = some (.bool m) := (cell_of_blk kb6 0).trans rfl; obtain ⟨ix, hix⟩ : ∃ ix, ix = vs2.idxOf x := ⟨_, rfl⟩; rw [← hix]; have HO6 := Sealed.mk (And.intro hoi6 (And.intro hin (And.intro hown6 hix))); clear hoi6 hin hs hf kb6 hown6 hix); try go_simp)
              | (refine step_ap_term el_term (.tmp 22) (.tmp 30) rfl rfl rfl HO6.out.2.2.1 rfl rfl rfl rfl (by omega) HO6.out.1.step.ext.size ?_; go_must (intro g7 c7 w7 ho7 hg7 hn7; have HO7 := Sealed.mk (And.intro ho7 (And.intro hg7 hn7)); clear ho7 hg7 hn7)))
          all_goals
            go_wp2_with fail
            go_roundg (n - (k + 1))
            case measure => omega
            case rel =>
              have hxz : ((x.toNat : Nat) : Int) = x := by have h8 : 0 ≤ x := HR2.out.2.2.2.2; omega
              refine ⟨k + 1, vs2, b2, _, _, rfl, by omega, by push_cast; rfl, rfl, ?_⟩
              rw [termsT_succ HR2.out.2.1, List.reverse_append]
              refine HO6.out.1.push (grown_trans (World.grownBy_alloc w6 _ _) HO7.out.2.1) (HO7.out.2.2.mono (by show w6.heap.size ≤ (w6.alloc _).heap.size; rw [World.size_alloc]; exact Nat.le_succ _)) (e := x.toNat) (by rw [hxz]; exact HO6.out.2.1) ?_
              rw [List.reverse_reverse, List.length_reverse, termsT_take HR2.out.2.1, hxz, ← HO6.out.2.2.2]
              exact HO7.out.1
        · have hkk : k = l.length := by have := HR.out.2.2.1; omega
          have hoi2 := hoi
          rw [hkk, List.take_length] at hoi2
          rw [← HR.out.2.2.1] at hoi2
          have hkn : k = n := by rw [HR.out.2.2.1]; exact hkk
          have hlm : (termsT l).length = n := by rw [HR.out.2.2.1]; simp [termsT]
          have hown := hoi2.own
          rw [List.reverse_reverse, List.length_reverse, hlm] at hown
          have hel : (encL vs1 (termsT l)).length = n := by rw [encL_length, hlm]
          have htl : TL wr (.slice oa n oc) (encL vs1 (termsT l)) := TL.of_own (by rw [hel]; exact hown) (by rw [hel]; omega)
          have hsm := sum_any hoi2.step.inv htl (by rw [hlm]; omega) (fun t ht => hoi2.emitted t (List.mem_reverse.2 ht)) (fun q hq => (hoi2.free q hq).1) (fun p hp => next_any (HU.out.2.2.2.1 p hp))
          rw [hoi2.step.p] at hsm
          rw [hkn]
          have HSM := Sealed.mk hsm; clear hsm
          have z3 := ((H3.out.2.1).block _ (lt_of_blk HX.out.2.2.2)).trans HX.out.2.2.2
          have HOI := Sealed.mk (And.intro hoi2.step z3); clear hoi hoi2 hown htl hel hlm hkk hkn z3
          obtain ⟨z, hz⟩ : ∃ z, z = val (termsT l) := ⟨_, rfl⟩
          rw [← hz] at HSM
          have HZ := Sealed.mk hz; clear hz
          go_wp2_with (first
            | (go_at_call 73; go_must (refine HSM.out.mono ?_; rintro e8 w8 ⟨vs4, b4, a8, c8, rfl, ho8, hl8, hc8, hs8, -, -⟩; have hgv := give_any hs8.inv (TL.of_own ho8 hl8) hc8; rw [hs8.p, HOI.out.1.p] at hgv; have hs58 := HOI.out.1.trans hs8; generalize (enc vs4 z).length = n8 at hgv ⊢; have HGV := Sealed.mk hgv; have HS8 := Sealed.mk hs58; clear hgv ho8 hc8 hs8 hs58 hl8))
            | (go_at_call 56; go_must (refine HGV.out.mono ?_; rintro e9 w9 h9; obtain ⟨pp, er, rfl, hi9, hx9, hres⟩ := h9.told; have hz9 : w9.heap[w.heap.size]? = some (.cells #[.pointer none] 30 (0, 0)) := (put_kept (n := w.heap.size + 1) HOI.out.2 (Below.refl _ _) (Below.refl _ _) HS8.out H3.out.2.2 hx9 (by omega)); have v9 : w9.cell? ⟨w.heap.size, 0, none⟩ = some (.pointer none) := (cell_of_blk hz9 0).trans rfl; have v9' : w9.frozen? ⟨w.heap.size, 0, none⟩ = false := frozen_of_blk hz9 0; have H9 := Sealed.mk (And.intro hz9 (And.intro hx9 hres)); clear hz9 hx9 hres hi9 h9)))
          obtain ⟨hz9, hx9, hres⟩ := H9.out
          have b9 := put_below (n := w.heap.size + 1) (below_chain HX.out.2.1 H3.out.2.1) (Below.refl _ _) (Below.refl _ _) HS8.out H3.out.2.2 (by omega) hx9
          have y0 : (w9.setCell ⟨w.heap.size, 0, none⟩ (.pointer pp)).cell? ⟨w.heap.size, 0, none⟩ = some (.pointer pp) := by rw [cell_of_blk (blk_setCell hz9 0 _)]; rfl
          refine bodyPost_ret (v := .tuple #[.agg #[.pointer pp], .int .i64 er]) (by simp [results, Try.results27, go_sem, y0]) rfl ⟨pp, er, rfl, b9.setCell (Nat.le_refl _) _, .inr (.inr ⟨H0.out, HU.out.2.2.2.2, ?_⟩)⟩
          have hzv : termsV l = z := HZ.out.symm
          rw [hzv]
          rcases hres with ⟨h1, h2, h3⟩ | h
          · exact .inl ⟨h1, h2, h3.other hz9 ((Ext.refl (fun k => k = w.heap.size) w9).setCell (p := ⟨w.heap.size, 0, none⟩) (.inl rfl) _)⟩
          · exact .inr h
end Go.Proofs.Ytgchfbfgjanaiaa

namespace Go.Proofs.Ytgchfbfgjanaiaa
open Go.RowKit Sr
noncomputable def hgt (l : List Nat) : Nat := l.foldr (fun (e : Nat) m => max (height (e : Int) + 1) m) 0
theorem hgt_exps (x : Int) : hgt (exps x) = height x := (height_eq x).symm
theorem hgt_snoc (e : Nat) : ∀ l : List Nat, hgt (l ++ [e]) = max (hgt l) (height (e : Int) + 1)
  | [] => by simp [hgt]
  | f :: l => by
    have h1 : hgt (f :: l ++ [e]) = max (height (f : Int) + 1) (hgt (l ++ [e])) := rfl
    have h2 : hgt (f :: l) = max (height (f : Int) + 1) (hgt l) := rfl
    rw [h1, h2, hgt_snoc e l]
    omega
theorem hgt_le {n : Nat} : ∀ {l : List Nat}, (∀ e ∈ l, height (e : Int) + 1 ≤ n) → hgt l ≤ n
  | [], _ => Nat.zero_le _
  | f :: l, h => by
    have h2 : hgt (f :: l) = max (height (f : Int) + 1) (hgt l) := rfl
    have h3 := hgt_le fun e he => h e (List.mem_cons_of_mem _ he)
    have h4 := h f (by simp)
    rw [h2]
    omega
set_option maxRecDepth 100000 in
set_option maxHeartbeats 4000000 in
theorem heightC_any {w : World} {vs : List Int} {y : Int} {v : Value} (hl : TL w v (enc vs y)) {bv vb np : Nat} (hbv : w.cell? ⟨bv, 0, none⟩ = some (.slice (some ⟨vb, 0, none⟩) np np)) (hh : ∀ e ∈ exps y, height (e : Int) ≤ 5000)
    (hval : ∀ e ∈ exps y, vs.idxOf (e : Int) < np ∧ w.cell? ⟨vb, vs.idxOf (e : Int), none⟩ = some (.int .i64 (height (e : Int) : Nat))) :
    Calls Try.prog 84 #[v, .pointer (some ⟨bv, 0, none⟩)] w fun e w' => e = .returned (.int .i64 (height y : Nat)) ∧ Below w.heap.size w w' := by
  obtain ⟨a, n, c, rfl⟩ := hl.slice
  obtain ⟨hn, hn1, hnc, -⟩ := hl.cells
  have hnE : n = (form y).length := by rw [hn]; simp [enc]
  clear hn
  have HNE := Sealed.mk hnE; clear hnE
  have HL := Sealed.mk hl; clear hl
  have HV := Sealed.mk (And.intro hbv (And.intro hval hh)); clear hbv hval hh
  go_enter Try.func84, Try.ntmps84
  go_wp2_with fail
  go_loopg [4, 9] n (fun j sv iv W => ∃ k : Nat, j = n - k ∧ k ≤ n ∧ iv = .int .i64 (k : Int) ∧ sv = .int .i64 (hgt ((exps y).take k) : Nat) ∧ Below w.heap.size w W)
  case atStart => exact ⟨0, rfl, Nat.zero_le _, rfl, rfl, Below.refl _ _⟩
  case round =>
    obtain ⟨k, rfl, hk, rfl, rfl, hb⟩ := hrel
    by_cases hkn : k < n
    · obtain ⟨⟨m, e⟩, ht⟩ : ∃ t, (form y)[k]? = some t := ⟨_, List.getElem?_eq_getElem (by have := HNE.out; omega)⟩
      have hey : e ∈ exps y := mem_exps.2 ⟨_, List.mem_of_getElem? ht, rfl⟩
      have hek : (exps y)[k]? = some e := by unfold exps; rw [List.getElem?_map, ht]; rfl
      obtain ⟨hq1, hq2⟩ := HV.out.2.1 e hey
      have hhe := HV.out.2.2 e hey
      have htk : hgt ((exps y).take (k + 1)) = max (hgt ((exps y).take k)) (height (e : Int) + 1) := by rw [take_snoc hek, hgt_snoc]
      have hhk : hgt ((exps y).take k) ≤ 5001 := hgt_le fun f hf => by have := HV.out.2.2 f (List.mem_of_mem_take hf); omega
      obtain ⟨q, hq⟩ : ∃ q : Nat, q = vs.idxOf (e : Int) := ⟨_, rfl⟩
      rw [← hq] at hq1 hq2
      obtain ⟨ve, hve⟩ : ∃ ve, ve = height (e : Int) := ⟨_, rfl⟩
      rw [← hve] at hq2 hhe htk
      have hte : (enc vs y)[k]? = some (m, q) := by simp [enc, ht, hq]
      obtain ⟨-, -, -, hcell⟩ := (HL.out.below hb).cells
      obtain ⟨bb, oo, rfl, h1, h2⟩ := hcell k _ hte
      dsimp only at h1 h2
      obtain ⟨W1, hW1⟩ : ∃ W1, W1 = wr.alloc (.cells #[.bool m, .int .i64 (q : Int)] 98) := ⟨_, rfl⟩
      have hb1 : Below w.heap.size w W1 := by rw [hW1]; exact hb.alloc hb.size _
      have hx1 : Ext noB wr W1 := by rw [hW1]; exact (Ext.refl noB wr).alloc _
      have keep : ∀ {b i : Nat} {u : Value}, wr.cell? ⟨b, i, none⟩ = some u → W1.cell? ⟨b, i, none⟩ = some u := fun {b i u} h => (cell_same (hx1.block b (lt_of_cell h) fun e => e) i).trans h
      have kb : W1.heap[wr.heap.size]? = some (.cells #[.bool m, .int .i64 (q : Int)] 98 (0, 0)) := by rw [hW1]; exact blk_alloc _ _
      have k1 : W1.cell? ⟨wr.heap.size, 1, none⟩ = some (.int .i64 (q : Int)) := (cell_of_blk kb 1).trans rfl
      have v0 : W1.cell? ⟨bv, 0, none⟩ = some (.slice (some ⟨vb, 0, none⟩) np np) := keep ((cell_same (hb.block bv (lt_of_cell HV.out.1)) 0).trans HV.out.1)
      have v1 : W1.cell? ⟨vb, q, none⟩ = some (.int .i64 (ve : Int)) := keep ((cell_same (hb.block vb (lt_of_cell hq2)) q).trans hq2)
      have HB := Sealed.mk (And.intro hb (And.intro hb1 htk)); clear hb hb1 htk hcell kb hte hey hek hq hq2 ht
      clear keep hx1
      have HVE := Sealed.mk hve; clear hve
      generalize hgt ((exps y).take k) = hk0 at HB hhk
      go_upto_region 5 with fail
      rw [← hW1]
      have HW1 := Sealed.mk hW1; clear hW1
      have hw1 : IntKind.i64.wrap ((ve : Int) + 1) = (ve : Int) + 1 := by rw [IntKind.wrap_i64]; omega
      go_wp2_with fail
      all_goals
        have hmax := HB.out.2.2
        have hw2 : IntKind.i64.wrap ((ve : Int) + 1) = (ve : Int) + 1 := by rw [IntKind.wrap_i64]; omega
        go_roundg (n - (k + 1))
        case measure => omega
        case rel => exact ⟨k + 1, rfl, by omega, by push_cast; rfl, by rw [hmax, Nat.max_def]; congr 1; split <;> omega, HB.out.2.1⟩
    · have hkk : k = n := by omega
      subst hkk
      have hkf : hgt ((exps y).take k) = height y := by rw [HNE.out, show (form y).length = (exps y).length by simp [exps], List.take_length, hgt_exps]
      rw [hkf]
      have HB := Sealed.mk hb; clear hb hkf
      go_wp2_with fail
      go_ret
      exact ⟨rfl, HB.out⟩
theorem below_st2 {n : Nat} {w W : World} (h : Below n w W) (o : Obj) (hn : n ≤ w.heap.size := by exact Nat.le_refl _) : Below n w (W.alloc o) := h.alloc (Nat.le_trans hn h.size) o
theorem below_mono2 {n k : Nat} {w W : World} (h : Below k w W) (hn : n ≤ k) : Below n w W := ⟨h.os, h.tape, h.output, h.size, fun q hq => h.block q (by omega)⟩
theorem height_exps {e : Nat} {x : Int} (h : e ∈ exps x) : height (e : Int) + 1 ≤ height x := by
  rw [← hgt_exps x]
  generalize exps x = l at h
  induction l with
  | nil => simp at h
  | cons f l ih =>
    have h2 : hgt (f :: l) = max (height (f : Int) + 1) (hgt l) := rfl
    rw [h2]
    rcases List.mem_cons.1 h with rfl | h
    · omega
    · have := ih h; omega
theorem height_part {e : Nat} {x : Int} (h : Part e x) : height (e : Int) + 1 ≤ height x := by
  induction h with
  | here h => exact height_exps h
  | deep h _ ih => have := height_exps h; omega
structure HT (w0 W : World) (x : Int) (p : Option Addr) (bv vb np k : Nat) : Prop where
  uc : W.cell? ⟨w0.heap.size, 0, none⟩ = some (.pointer p)
  below : Below w0.heap.size w0 W
  var : W.heap[bv]? = some (.cells #[.slice (some ⟨vb, 0, none⟩) np np] 57 (0, 0))
  tab : ∃ cs : Array Value, W.heap[vb]? = some (.cells cs 3 (0, 0)) ∧ cs.size = np ∧ ∀ (i e : Nat), i < k → (plist x)[i]? = some e → cs[i]? = some (.int .i64 ((height (e : Int) : Nat)))
  new : w0.heap.size < bv ∧ w0.heap.size < vb ∧ bv ≠ vb
theorem HT.keep {w0 W W' : World} {x : Int} {p : Option Addr} {bv vb np k : Nat} (h : HT w0 W x p bv vb np k) (hb : Below W.heap.size W W') : HT w0 W' x p bv vb np k := by
  obtain ⟨cs, q1, q2, q3⟩ := h.tab
  exact ⟨(cell_same (hb.block _ (lt_of_cell h.uc)) 0).trans h.uc, h.below.trans (below_mono2 hb h.below.size), (hb.block _ (lt_of_blk h.var)).trans h.var, ⟨cs, (hb.block _ (lt_of_blk q1)).trans q1, q2, q3⟩, h.new⟩
theorem HT.vals {w0 W : World} {x : Int} {p : Option Addr} {bv vb k : Nat} (h : HT w0 W x p bv vb (plist x).length k) {y : Int} (hy : ∀ f ∈ exps y, f ∈ (plist x).take k) : W.cell? ⟨bv, 0, none⟩ = some (.slice (some ⟨vb, 0, none⟩) (plist x).length (plist x).length) ∧
    ∀ f ∈ exps y, (pvs x).idxOf (f : Int) < (plist x).length ∧ W.cell? ⟨vb, (pvs x).idxOf (f : Int), none⟩ = some (.int .i64 ((height (f : Int) : Nat))) := by
  refine ⟨(cell_of_blk h.var 0).trans rfl, fun f hf => ?_⟩
  obtain ⟨cs, h1, h2, h3⟩ := h.tab
  have hm := hy f hf
  have hm2 : f ∈ plist x := List.mem_of_mem_take hm
  have hi := List.idxOf_lt_length_of_mem hm
  rw [idxOf_take hm] at hi
  have hi' := List.idxOf_lt_length_of_mem hm2
  rw [pvs_idxOf]
  refine ⟨hi', (cell_of_blk h1 _).trans (h3 _ f (by simp at hi; omega) ?_)⟩
  rw [List.getElem?_eq_getElem hi']
  simp
set_option maxRecDepth 100000 in
set_option maxHeartbeats 4000000 in
theorem Height_any {w : World} {u : Value} {x : Int} (h : NumIs w u x) : Calls Try.prog 43 #[u] w fun e w' => e = .returned (.int .i64 (height x : Nat)) ∧ Below w.heap.size w w' := by
  obtain ⟨p, hp⟩ : ∃ p, u = .agg #[.pointer p] := by
    rcases h.2 with ⟨_, h⟩ | ⟨_, k, h, _⟩
    · exact ⟨none, h⟩
    · exact ⟨_, h⟩
  subst hp
  obtain ⟨np, hnp⟩ : ∃ np, np = (plist x).length := ⟨_, rfl⟩
  have hnpb : np ≤ 2000 := by have := h.1.2.2.1; unfold weight at this; omega
  have hht : ∀ f, Part f x → height (f : Int) ≤ 5000 := fun f hf => by have h1 := height_part hf; have h2 := h.1.2.2.2; omega
  have HHT := Sealed.mk hht; clear hht
  have hpa := fun W (hb : Below w.heap.size w W) => parts_at h hb
  have hsa := fun W (hb : Below w.heap.size w W) => self_at h hb
  have hmk := fun W => run_mk el_int np (by omega) W
  obtain ⟨W1, hW1⟩ : ∃ W1, W1 = w.alloc (.cells #[.pointer p] 30) := ⟨_, rfl⟩
  have b1 : Below w.heap.size w W1 := by rw [hW1]; exact (Below.refl _ _).alloc (Nat.le_refl _) _
  have x1 : W1.heap[w.heap.size]? = some (.cells #[.pointer p] 30 (0, 0)) := by rw [hW1]; exact blk_alloc _ _
  have hpa1 := hpa W1 b1
  rw [hW1] at hpa1
  have HPA := Sealed.mk (And.intro hpa (And.intro hsa hpa1)); clear hpa hsa hpa1
  have H := Sealed.mk (And.intro h hnp); clear h hnp
  have HX1 := Sealed.mk (And.intro hW1 (And.intro b1 x1)); clear hW1 b1 x1
  go_enter Try.func43, Try.ntmps43
  go_upto_region 3 with (go_at_call 65; go_must (refine HPA.out.2.2.mono ?_; rintro e w2 ⟨v2, rfl, hp2, hb2⟩; obtain ⟨f2, a2, c2, rfl, r2, r3⟩ := hp2; rw [← H.out.2]; have HB2 := Sealed.mk hb2; clear hb2 f2 r2 r3))
  obtain ⟨W0, hW0⟩ : ∃ W0, W0 = (w2.alloc (.cells (madeCells #[.int .i64 0] np) 3)).alloc (.cells #[.slice (some ⟨w2.heap.size, 0, none⟩) np np] 57) := ⟨_, rfl⟩
  have b2 : Below w.heap.size w w2 := by
    have hb := HB2.out
    rw [← HX1.out.1] at hb
    exact HX1.out.2.1.trans (below_mono2 hb HX1.out.2.1.size)
  have x0 : W0.cell? ⟨w.heap.size, 0, none⟩ = some (.pointer p) := by
    have hb := HB2.out
    have y2 := (hb.block w.heap.size (by simp)).trans (blk_alloc w _)
    have y0 := blk_alloc_old (blk_alloc_old y2 (.cells (madeCells #[.int .i64 0] np) 3)) (.cells #[.slice (some ⟨w2.heap.size, 0, none⟩) np np] 57)
    rw [← hW0] at y0
    exact (cell_of_blk y0 0).trans rfl
  have hi0 : HT w W0 x p (w2.heap.size + 1) w2.heap.size np 0 := by
    have c0 := blk_alloc w2 (.cells (madeCells #[.int .i64 0] np) 3)
    have c1 := blk_alloc (w2.alloc (.cells (madeCells #[.int .i64 0] np) 3)) (.cells #[.slice (some ⟨w2.heap.size, 0, none⟩) np np] 57)
    have e : (w2.alloc (.cells (madeCells #[.int .i64 0] np) 3)).heap.size = w2.heap.size + 1 := by simp
    rw [e, ← hW0] at c1
    have c0' := blk_alloc_old c0 (.cells #[.slice (some ⟨w2.heap.size, 0, none⟩) np np] 57)
    rw [← hW0] at c0'
    have hsz : w.heap.size + 1 ≤ w2.heap.size := by have := HB2.out.size; simp at this; omega
    exact ⟨x0, by rw [hW0]; exact below_st2 (below_st2 b2 _) _, c1, ⟨_, c0', by simp [size_madeCells], fun i e h => by omega⟩, by omega, by omega, by omega⟩
  have hp0 := HPA.out.1 W0 hi0.below
  have HP0 := Sealed.mk hp0; clear hp0
  have HI0 := Sealed.mk hi0; clear hi0
  rw [← hW0]
  have HW0 := Sealed.mk (And.intro hW0 b2); clear hW0 b2
  go_wp2_with (go_at_call 65; go_must (refine HP0.out.mono ?_; rintro e w3 ⟨v3, rfl, hp3, hb3⟩; have HP3 := Sealed.mk (And.intro hp3 hb3); obtain ⟨f3, a3, c3, rfl, r3, r3'⟩ := hp3; rw [← H.out.2] at r3 HP3 ⊢; clear f3 r3' hb3))
  go_loopg [15] np (fun j iv W => ∃ k : Nat, j = np - k ∧ k ≤ np ∧ iv = .int .i64 (k : Int) ∧ HT w W x p (w2.heap.size + 1) w2.heap.size np k)
  case atStart =>
    refine ⟨0, rfl, Nat.zero_le _, rfl, ?_⟩
    have hI := HI0.out
    have hb3 := HP3.out.2
    obtain ⟨cs, q1, q2, q3⟩ := hI.tab
    exact ⟨(cell_same (hb3.block _ (lt_of_cell hI.uc)) 0).trans hI.uc, hI.below.trans (below_mono2 hb3 hI.below.size), (hb3.block _ (lt_of_blk hI.var)).trans hI.var, ⟨cs, (hb3.block _ (lt_of_blk q1)).trans q1, q2, q3⟩, hI.new⟩
  case round =>
    obtain ⟨k, rfl, hk, rfl, hI⟩ := hrel
    by_cases hkn : k < np
    · obtain ⟨e, he⟩ : ∃ e, (plist x)[k]? = some e := ⟨_, List.getElem?_eq_getElem (by have := H.out.2; omega)⟩
      obtain ⟨-, a', c', hv3, -, hr3⟩ := HP3.out.1
      obtain ⟨b, o, ha, hcell⟩ := hr3 (fun hh => by rw [hh] at he; simp at he)
      obtain ⟨hva, -, -⟩ := Value.slice.inj hv3
      rw [← hva] at ha
      subst ha
      obtain ⟨uk, hu1, hu2⟩ := hcell.get k e he
      obtain ⟨ua, un, ucp, rfl⟩ := hu2.slice
      have g0 : wr.cell? ⟨b, o + k, none⟩ = some (.slice ua un ucp) := (cell_same (hI.below.block b (lt_of_cell hu1)) _).trans hu1
      have hex : ∀ f ∈ exps (e : Int), f ∈ (plist x).take k := fun f hf => part_ahead he hf
      have hI' := hI
      rw [H.out.2] at hI'
      have hvl := hI'.vals hex
      rw [← H.out.2] at hvl
      have hic := heightC_any (w := wr.drew) ((hu2.below hI.below).ext ((Ext.refl noB wr).drew) fun _ _ h => h) (bv := w2.heap.size + 1) (vb := w2.heap.size) (np := np) hvl.1 (fun f hf => HHT.out f ((mem_plist.1 (List.mem_of_getElem? he)).up hf)) hvl.2
      obtain ⟨cs, q1, q2, q3⟩ := hI.tab
      have g1 : wr.drew.cell? ⟨w2.heap.size + 1, 0, none⟩ = some (.slice (some ⟨w2.heap.size, 0, none⟩) np np) := hvl.1
      have hkc : ∃ v, cs[k]? = some v := ⟨_, Array.getElem?_eq_getElem (by omega)⟩
      obtain ⟨vk, hvk⟩ := hkc
      obtain ⟨ve, hve⟩ : ∃ ve, ve = (height (e : Int) : Nat) := ⟨_, rfl⟩
      rw [← hve] at hic
      have HC := Sealed.mk hic; clear hic
      have HI := Sealed.mk (And.intro hI (And.intro q1 (And.intro q2 (And.intro q3 (And.intro hvk (And.intro he hve)))))); clear hI hI' q1 q2 q3 hvk he hve hvl hex hu1 hu2 hcell hr3 hv3 hva
      have HG1 := Sealed.mk g1
      go_upto_region 6 with fail
      go_region_held3 (fun w' => w'.cell? ⟨w2.heap.size + 1, 0, none⟩ = some (.slice (some ⟨w2.heap.size, 0, none⟩) np np))
        (first | exact HG1.out | exact HG5.out | exact HG6.out _ _)
        (first | (go_at_call 84; go_must (refine HC.out.mono ?_; rintro e' w5 ⟨rfl, hb5⟩; have hy5 := (hb5.block _ (lt_of_blk HI.out.1.var)).trans HI.out.1.var; have HG5 := Sealed.mk ((cell_of_blk hy5 0).trans rfl : w5.cell? ⟨w2.heap.size + 1, 0, none⟩ = some (.slice (some ⟨w2.heap.size, 0, none⟩) np np)); have HG6 : Sealed (∀ (j : Nat) (v : Value), (w5.setCell ⟨w2.heap.size, j, none⟩ v).cell? ⟨w2.heap.size + 1, 0, none⟩ = some (.slice (some ⟨w2.heap.size, 0, none⟩) np np)) := ⟨fun j v => (cell_same (((Ext.refl (fun q => q = w2.heap.size) w5).setCell (p := ⟨w2.heap.size, j, none⟩) (.inl rfl) v).block _ (lt_of_blk hy5) (by omega)) 0).trans HG5.out⟩; have hz5 := (hb5.block _ (lt_of_blk HI.out.2.1)).trans HI.out.2.1; have g7 : w5.cell? ⟨w2.heap.size, k, none⟩ = some vk := (cell_of_blk hz5 k).trans HI.out.2.2.2.2.1; have g8 : w5.frozen? ⟨w2.heap.size, k, none⟩ = false := frozen_of_blk hz5 k; have H5 := Sealed.mk (And.intro hb5 (And.intro hy5 hz5)); clear hb5 hy5 hz5)))
      go_wp2_with fail
      go_roundg (np - (k + 1))
      case measure => omega
      case rel =>
        refine ⟨k + 1, rfl, by omega, by push_cast; rfl, ?_⟩
        obtain ⟨hb5, hy5, hz5⟩ := H5.out
        obtain ⟨hI, q1, q2, q3, hvk, he, hve⟩ := HI.out
        have e6 : Ext (fun q => q = w2.heap.size) w5 (w5.setCell ⟨w2.heap.size, k, none⟩ (.int .i64 ve)) := (Ext.refl (fun q => q = w2.heap.size) w5).setCell (p := ⟨w2.heap.size, k, none⟩) (.inl rfl) _
        have hsz : wr.heap.size ≤ w5.heap.size := hb5.size
        have hnew := hI.new
        refine ⟨?_, ?_, ?_, ⟨cs.setIfInBounds k (.int .i64 ve), by rw [blk_setCell hz5 k _], by simp [q2], fun i f hi hf => ?_⟩, hnew⟩
        · exact (cell_same (e6.block _ (by have := lt_of_cell hI.uc; omega) (by omega)) 0).trans ((cell_same (hb5.block _ (lt_of_cell hI.uc)) 0).trans hI.uc)
        · have hs := hI.below.size
          exact ⟨e6.os.trans (hb5.os.trans hI.below.os), e6.tape.trans (hb5.tape.trans hI.below.tape), e6.output.trans (hb5.output.trans hI.below.output), Nat.le_trans hs (Nat.le_trans hsz e6.size), fun q hq => (e6.block q (by omega) (by omega)).trans ((hb5.block q (by show q < wr.heap.size; omega)).trans (hI.below.block q hq))⟩
        · exact e6.get hy5 (by omega)
        · rw [Array.getElem?_setIfInBounds]
          by_cases hik : k = i
          · subst hik
            rw [he] at hf
            obtain rfl := Option.some.inj hf
            rw [if_pos rfl, if_pos (by omega), hve]
          · rw [if_neg hik]
            exact q3 i f (by omega) hf
    · have hkk : k = np := by omega
      have htk : (plist x).take k = plist x := by rw [hkk, H.out.2, List.take_length]
      have u0 := hI.uc
      have hs := HPA.out.2.1 wr hI.below
      have hcl : ∀ (w5 : World) (v : Value), Below wr.heap.size wr w5 → TL w v (enc (pvs x) x) → Calls Try.prog 84 #[v, .pointer (some ⟨w2.heap.size + 1, 0, none⟩)] w5 fun e w' => e = .returned (.int .i64 (height x : Nat)) ∧ Below w5.heap.size w5 w' := fun w5 v hb hl => by
        have hI5 := hI.keep hb
        have hI' := hI5
        rw [H.out.2] at hI'
        have hvl := hI'.vals (y := x) fun f hf => by rw [htk]; exact mem_plist.2 (.here hf)
        rw [← H.out.2] at hvl
        exact heightC_any (hl.below hI5.below) hvl.1 (fun f hf => HHT.out f (.here hf)) hvl.2
      obtain ⟨hx, hhx⟩ : ∃ hx, hx = height x := ⟨_, rfl⟩
      rw [← hhx] at hcl
      have HS := Sealed.mk hs; clear hs
      have HCL := Sealed.mk hcl; clear hcl
      have HI := Sealed.mk (And.intro hI hhx); clear hI hhx
      clear hkk htk
      go_wp2_with (first
        | (go_at_call 66; go_must (refine HS.out.mono ?_; rintro e w5 ⟨v5, rfl, hl5, hb5⟩; have HC5 := Sealed.mk (HCL.out w5 v5 hb5 hl5); have HB5 := Sealed.mk hb5; clear hl5 hb5))
        | (go_at_call 84; go_must (refine HC5.out.mono ?_; rintro e w6 ⟨rfl, hb6⟩)))
      refine bodyPost_ret (v := .int .i64 (hx : Int)) (by simp [results, Try.results43, go_sem]) rfl ⟨by rw [HI.out.2], ?_⟩
      have hI := HI.out.1.keep HB5.out
      exact hI.below.trans (below_mono2 hb6 hI.below.size)
end Go.Proofs.Ytgchfbfgjanaiaa

namespace Go.Proofs.Ytgchfbfgjanaiaa
open Go.RowKit Sr
open Classical in
noncomputable def pz (x z : Int) (k : Nat) : List Nat := ((plist x).take k).filter fun e => decide (Part e z)
theorem idxOf_nat {v : List Nat} (h : v.Nodup) {i : Nat} {x : Nat} (hx : v[i]? = some x) : v.idxOf x = i := by
  obtain ⟨hi, rfl⟩ := List.getElem?_eq_some_iff.1 hx
  exact h.idxOf_getElem i hi
theorem pz_zero (x z : Int) : pz x z 0 = [] := by simp [pz]
theorem pz_yes {x z : Int} {k e : Nat} (he : (plist x)[k]? = some e) (h : Part e z) : pz x z (k + 1) = pz x z k ++ [e] := by
  unfold pz
  rw [take_snoc he, List.filter_append]
  simp [h]
theorem pz_no {x z : Int} {k e : Nat} (he : (plist x)[k]? = some e) (h : ¬ Part e z) : pz x z (k + 1) = pz x z k := by
  unfold pz
  rw [take_snoc he, List.filter_append]
  simp [h]
theorem pz_mem {x z : Int} {k e : Nat} : e ∈ pz x z k ↔ e ∈ (plist x).take k ∧ Part e z := by
  unfold pz
  simp
theorem idx_lt {x : Int} {k : Nat} {z : Nat} (hz : (plist x)[k]? = some z) {e : Nat} (he : Part e (z : Int)) : e ∈ (plist x).take k := by
  have hzx : Part z x := mem_plist.1 (List.mem_of_getElem? hz)
  have hgp : e ∈ plist x := mem_plist.2 (hzx.trans he)
  have hlt : e < z := by have := he.lt; simpa using this
  obtain ⟨j, hj⟩ := List.getElem?_of_mem hgp
  obtain ⟨hjl, hj'⟩ := List.getElem?_eq_some_iff.1 hj
  obtain ⟨hkl, hk'⟩ := List.getElem?_eq_some_iff.1 hz
  have hup := List.pairwise_iff_getElem.1 (plist_up x)
  have hjk : j < k := by
    rcases Nat.lt_trichotomy j k with h | h | h
    · exact h
    · subst h; omega
    · have := hup k j hkl hjl h; omega
  rw [List.mem_take_iff_getElem]
  exact ⟨j, by omega, hj'⟩
theorem pz_all {x : Int} {k z : Nat} (hz : (plist x)[k]? = some z) : pz x (z : Int) k = plist (z : Int) := by
  symm
  refine plist_of ?_ fun e => ?_
  · unfold pz
    exact List.Pairwise.filter _ ((plist_up x).sublist (List.take_sublist _ _))
  · rw [pz_mem]
    exact ⟨fun h => h.2, fun h => ⟨idx_lt hz h, h⟩⟩
theorem pz_prefix (x z : Int) {j k : Nat} (h : j ≤ k) : pz x z j <+: pz x z k := by
  unfold pz
  have : (plist x).take j <+: (plist x).take k := List.take_prefix_take_left h
  exact this.filter _
theorem pz_len_le (x z : Int) (k : Nat) : (pz x z k).length ≤ k := by
  unfold pz
  refine Nat.le_trans (List.length_filter_le _ _) ?_
  simp; omega
theorem pz_at {x : Int} {k z : Nat} (hz : (plist x)[k]? = some z) {j e : Nat} (hj : j < k) (he : (plist x)[j]? = some e) (hp : Part e (z : Int)) : (plist (z : Int))[(pz x (z : Int) j).length]? = some e ∧ (plist (z : Int)).idxOf e = (pz x (z : Int) j).length := by
  have h1 : pz x (z : Int) (j + 1) <+: plist (z : Int) := by rw [← pz_all hz]; exact pz_prefix x z (by omega)
  rw [pz_yes he hp] at h1
  have h2 : (plist (z : Int))[(pz x (z : Int) j).length]? = some e := getElem?_prefix h1 (by simp)
  refine ⟨h2, ?_⟩
  exact idxOf_nat ((plist_up _).imp fun h => by omega) h2
structure UI (x : Int) (k z i : Nat) (us : List Bool) : Prop where
  len : us.length = k + 1
  top : us[k]? = some true
  sound : ∀ (j e : Nat), us[j]? = some true → (plist x)[j]? = some e → j = k ∨ Part e (z : Int)
  closed : ∀ (j e f : Nat), i ≤ j → us[j]? = some true → (plist x)[j]? = some e → f ∈ exps (e : Int) → us[(plist x).idxOf f]? = some true
theorem UI.start (x : Int) {k z : Nat} (hz : (plist x)[k]? = some z) : UI x k z (k + 1) ((List.replicate (k + 1) false).set k true) where
  len := by simp
  top := by simp
  sound j e h he := by
    rw [List.getElem?_set] at h
    split at h
    · rename_i hh; exact .inl hh.symm
    · rw [List.getElem?_replicate] at h
      split at h <;> simp at h
  closed j e f hj h he hf := by
    have : j < ((List.replicate (k + 1) false).set k true).length := (List.getElem?_eq_some_iff.1 h).1
    simp at this
    omega
structure UK (x : Int) (k z i n : Nat) (us : List Bool) : Prop where
  ui : UI x k z (i + 1) us
  inn : ∀ e : Nat, (plist x)[i]? = some e → us[i]? = some true → ∀ t ∈ (form (e : Int)).take n, us[(plist x).idxOf t.2]? = some true
theorem UK.start {x : Int} {k z i : Nat} {us : List Bool} (h : UI x k z (i + 1) us) : UK x k z i 0 us := ⟨h, fun _ _ _ t ht => by simp at ht⟩
theorem UK.done {x : Int} {k z i e : Nat} {us : List Bool} (he : (plist x)[i]? = some e) (h : UK x k z i (form (e : Int)).length us) : UI x k z i us where
  len := h.ui.len
  top := h.ui.top
  sound := h.ui.sound
  closed j e' f hj hu he' hf := by
    by_cases hji : j = i
    · subst hji
      rw [he] at he'
      obtain rfl := Option.some.inj he'
      obtain ⟨t, ht, rfl⟩ := mem_exps.1 hf
      exact h.inn e he hu t (by rw [List.take_length]; exact ht)
    · exact h.ui.closed j e' f (by omega) hu he' hf
theorem idx_ahead {x : Int} {i e f : Nat} (he : (plist x)[i]? = some e) (hf : f ∈ exps (e : Int)) : (plist x).idxOf f < i := by
  have hgk := part_ahead he hf
  have hil := List.idxOf_lt_length_of_mem hgk
  rw [idxOf_take hgk] at hil
  simp at hil
  omega
theorem UK.step {x : Int} {k z i n e f : Nat} {m o c : Bool} {us : List Bool} (hz : (plist x)[k]? = some z) (hik : i ≤ k) (h : UK x k z i n us) (he : (plist x)[i]? = some e) (ht : (form (e : Int))[n]? = some (m, f)) (ho : us[(plist x).idxOf f]? = some o) (hc : us[i]? = some c) :
    UK x k z i (n + 1) (us.set ((plist x).idxOf f) (o || c)) := by
  have hfe : f ∈ exps (e : Int) := mem_exps.2 ⟨_, List.mem_of_getElem? ht, rfl⟩
  have hq := idx_ahead he hfe
  have hql : (plist x).idxOf f < us.length := (List.getElem?_eq_some_iff.1 ho).1
  have keep : ∀ j, us[j]? = some true → (us.set ((plist x).idxOf f) (o || c))[j]? = some true := fun j hj => by
    rw [List.getElem?_set]
    split
    · rename_i hh
      subst hh
      rw [ho] at hj
      obtain rfl := Option.some.inj hj
      simp [hql]
    · exact hj
  have hisame : (us.set ((plist x).idxOf f) (o || c))[i]? = us[i]? := by rw [List.getElem?_set, if_neg (by omega)]
  refine ⟨⟨by simp [h.ui.len], keep _ h.ui.top, fun j e' hj he' => ?_, fun j e' f' hj hu he' hf' => ?_⟩, fun e' he' hu t htm => ?_⟩
  · rw [List.getElem?_set] at hj
    split at hj
    · rename_i hh
      subst hh
      have hoc : o = true ∨ c = true := by
        simpa using hj
      rcases hoc with rfl | rfl
      · exact h.ui.sound _ e' ho he'
      · have hfx : f ∈ plist x := mem_plist.2 ((mem_plist.1 (List.mem_of_getElem? he)).up hfe)
        have hfi : (plist x)[(plist x).idxOf f]? = some f := by
          have := List.idxOf_lt_length_of_mem hfx
          rw [List.getElem?_eq_getElem this]; simp
        rw [hfi] at he'
        obtain rfl := Option.some.inj he'
        rcases h.ui.sound i e hc he with hi | hp
        · subst hi
          rw [hz] at he
          obtain rfl := Option.some.inj he
          exact .inr (.here hfe)
        · exact .inr (hp.up hfe)
    · exact h.ui.sound j e' hj he'
  · refine keep _ (h.ui.closed j e' f' hj ?_ he' hf')
    rw [List.getElem?_set, if_neg (by omega)] at hu
    exact hu
  · rw [he] at he'
    obtain rfl := Option.some.inj he'
    rw [hisame] at hu
    rw [take_snoc ht] at htm
    rcases List.mem_append.1 htm with htm | htm
    · exact keep _ (h.inn e he hu t htm)
    · simp at htm
      subst htm
      rw [hc] at hu
      obtain rfl := Option.some.inj hu
      simp [hql]
theorem UI.all {x : Int} {k z : Nat} {us : List Bool} (hz : (plist x)[k]? = some z) (h : UI x k z 0 us) {j e : Nat} (hj : j < k) (he : (plist x)[j]? = some e) : us[j]? = some true ↔ Part e (z : Int) := by
  have hnd : (plist x).Nodup := (plist_up _).imp fun h => by omega
  have hidx : ∀ {j e : Nat}, (plist x)[j]? = some e → (plist x).idxOf e = j := fun {j e} he => idxOf_nat hnd he
  have hget : ∀ {e : Nat}, e ∈ plist x → (plist x)[(plist x).idxOf e]? = some e := fun {e} he => by
    have := List.idxOf_lt_length_of_mem he
    rw [List.getElem?_eq_getElem this]; simp
  constructor
  · intro hu
    rcases h.sound j e hu he with h1 | h1
    · omega
    · exact h1
  · intro hp
    have key : ∀ (f : Nat) (y : Int), Part f y → ∀ n : Nat, y = (n : Int) → n ∈ plist x → us[(plist x).idxOf n]? = some true → us[(plist x).idxOf f]? = some true := by
      intro f y hpy
      induction hpy with
      | here hf =>
        intro n hn hnx hu
        subst hn
        exact h.closed _ _ _ (Nat.zero_le _) hu (hget hnx) hf
      | deep hf _ ih =>
        intro n hn hnx hu
        subst hn
        exact ih _ rfl (mem_plist.2 ((mem_plist.1 hnx).up hf)) (h.closed _ _ _ (Nat.zero_le _) hu (hget hnx) hf)
    have := key e z hp z rfl (List.mem_of_getElem? hz) (by rw [hidx hz]; exact h.top)
    rwa [hidx he] at this
set_option maxRecDepth 100000 in
set_option maxHeartbeats 4000000 in
theorem partF_any {w : World} {v : Value} {l : List (Bool × Nat)} (hl : TL w v l) {bm : Nat} {pv : Value} {ty1 : TypeId}
    (hm : w.heap[bm]? = some (.cells #[pv] ty1 (0, 0))) (f : Nat → Nat)
    (hf : ∀ t ∈ l, ∃ pb np pc, pv = .slice (some ⟨pb, 0, none⟩) np pc ∧ t.2 < np ∧ np ≤ 100000 ∧ w.cell? ⟨pb, t.2, none⟩ = some (.int .i64 (f t.2 : Int))) :
    Calls Try.prog 104 #[v, .pointer (some ⟨bm, 0, none⟩)] w fun e w' => ∃ a c, e = .returned (.slice a l.length c) ∧ w'.ownsRow w.heap.size 98 2 (.slice a l.length c) l.length (tcells (l.map fun t => (t.1, f t.2))) ∧ Below w.heap.size w w' := by
  have hll := hl.1
  have hcl := clone_any hl
  obtain ⟨n, hn⟩ : ∃ n, n = l.length := ⟨_, rfl⟩
  rw [← hn] at hll hcl ⊢
  have HCL := Sealed.mk hcl; clear hcl hl
  have HN := Sealed.mk hn; clear hn
  have HV := Sealed.mk (And.intro hm hf); clear hm hf
  go_enter Try.func104, Try.ntmps104
  go_wp2_with (go_at_call 93; go_must (refine HCL.out.mono ?_; rintro e w1 ⟨a1, c1, rfl, hown, hb⟩))
  have HO1 := Sealed.mk hown; clear hown
  go_loopg [4, 9] n (fun j _ i wr => ∃ k : Nat, j = n - k ∧ k ≤ n ∧ i = .int .i64 (k : Int) ∧ wr.ownsRow w.heap.size 98 2 (.slice a1 n c1) n (tcells (plTo f l k)) ∧ Below w.heap.size w wr)
  case atStart => exact ⟨0, rfl, Nat.zero_le _, rfl, by simpa [plTo] using HO1.out, hb⟩
  case round =>
    obtain ⟨k, rfl, hk, rfl, hown, hb⟩ := hrel
    by_cases hkl : k < n
    · obtain ⟨t, ht⟩ : ∃ t, l[k]? = some t := ⟨_, List.getElem?_eq_getElem (by rw [← HN.out]; exact hkl)⟩
      obtain ⟨g, cap, e1⟩ := own_form hown (by omega)
      obtain ⟨rfl, _, rfl⟩ := Value.slice.inj e1
      have ht' := plTo_at (f := f) ht
      obtain ⟨pb, np, pc, rfl, hq, hnp, hcell⟩ := HV.out.2 _ (List.mem_of_getElem? ht)
      obtain ⟨m, q⟩ := t
      simp only at hq hcell
      have h1 := own_cell hown (b := g) rfl (tcells_at _ k _ ht').2
      have h2 := own_free hown (b := g) rfl (k * 2 + 1)
      have c0 : wr.drew.cell? ⟨bm, 0, none⟩ = some (.slice (some ⟨pb, 0, none⟩) np pc) := (cell_of_blk ((hb.block bm (lt_of_blk HV.out.1)).trans HV.out.1) 0).trans rfl
      have c1' : wr.drew.cell? ⟨pb, q, none⟩ = some (.int .i64 (f q : Int)) := (cell_same (hb.block pb (lt_of_cell hcell)) q).trans hcell
      have h1' : wr.drew.cell? ⟨g, k * 2 + 1, none⟩ = some (.int .i64 (q : Int)) := h1
      have h2' : wr.drew.frozen? ⟨g, k * 2 + 1, none⟩ = false := h2
      have HO := Sealed.mk (And.intro hown (And.intro hb (And.intro ht ht'))); clear hown hb ht ht' e1 h1 h2 hcell
      go_wp2_with fail
      refine wp_region_still_tail 12 (by kernel_rfl) (by kernel_rfl) ?_
      simp only [List.take_succ_cons, List.take_zero, List.drop_succ_cons, List.drop_zero]
      (repeat still_step)
      refine wpStill_nil ?_
      change wpList _ _ _ _ _ wr.drew
      go_wp2_with fail
      go_roundg (n - (k + 1))
      case measure => omega
      case rel =>
        obtain ⟨hown, hb, ht, ht'⟩ := HO.out
        exact ⟨k + 1, rfl, by omega, by push_cast; rfl, by rw [plTo_succ ht, tcells_set2 _ _ _ _ ht']; exact own_set (w := wr.drew) hown rfl (by omega) _, Below.setCell (w := wr.drew) ⟨hb.os, hb.tape, hb.output, hb.size, hb.block⟩ (own_ge hown g rfl) _⟩
    · have e : k = l.length := by rw [← HN.out]; omega
      rw [e] at hown
      have HO := Sealed.mk (And.intro hown hb); clear hown hb e
      go_wp2_with fail
      go_ret
      exact ⟨a1, c1, rfl, by simpa [plTo] using HO.out.1, HO.out.2⟩
end Go.Proofs.Ytgchfbfgjanaiaa
