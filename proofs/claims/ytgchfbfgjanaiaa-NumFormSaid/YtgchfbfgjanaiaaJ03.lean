/- num.world.id: a form's place -/
import Derived.Test.YtgchfbfgjanaiaaJ02
import Derived.StillTailTactics
import Derived.Deep.DeepMust
set_option linter.unusedSimpArgs false
set_option linter.unusedVariables false
namespace Go.Proofs.Ytgchfbfgjanaiaa
open Go.RowKit Sr
theorem key_round {W : World} {B k q : Nat} {m : Bool} {v : Value} {l : List (Bool × Nat)} (ht : l[k]? = some (m, q)) (hq : q < 4294967296)
    (h : W.ownsRow B 5 1 v (k * 5 + 5) ((keyNums (l.take k)).map (.int .u8 ·) ++ [.int .u8 (if m then 1 else 0), .int .u8 ((q : Int) / 16777216), .int .u8 ((q : Int) / 65536 % 256), .int .u8 ((q : Int) / 256 % 256), .int .u8 ((q : Int) % 256)])) :
    W.ownsRow B 5 1 v ((k + 1) * 5) ((keyNums (l.take (k + 1))).map (.int .u8 ·)) := by
  rw [take_snoc ht, keyNums_append, show (k + 1) * 5 = k * 5 + 5 by omega]
  have e1 : keyByte q 24 = (q : Int) / 16777216 := by unfold keyByte; simp only [Nat.reducePow]; omega
  have e2 : keyByte q 16 = (q : Int) / 65536 % 256 := by unfold keyByte; simp only [Nat.reducePow]; omega
  have e3 : keyByte q 8 = (q : Int) / 256 % 256 := by unfold keyByte; simp only [Nat.reducePow]; omega
  have e4 : keyByte q 0 = (q : Int) % 256 := by unfold keyByte; simp only [Nat.reducePow]; omega
  simp only [keyNums, List.map_append, List.map_cons, List.map_nil, e1, e2, e3, e4]
  exact h
theorem conv_key {w : World} {B : Nat} {v : Value} {l : List (Bool × Nat)} (h : w.ownsRow B 5 1 v (l.length * 5) ((keyNums l).map (.int .u8 ·))) :
    (convert 22 9 v).run Try.prog w = .ok (.string (keyS l)) w := by
  rcases h.2 with ⟨rfl, h0⟩ | ⟨g, cap, cur, rfl, _⟩
  · have hl : l = [] := List.eq_nil_of_length_eq_zero (by omega)
    subst hl
    exact run_convert_bytes_nil w 22 5 Try.underlying22 Try.underlying5 0 0 9 Try.underlying9
  · refine run_convert_bytes_arg w 22 5 Try.underlying22 Try.underlying5 g 0 _ cap (keyNums l) (keyNums_length l) (fun i hi => ?_) 9 Try.underlying9
    have hi' : i < (keyNums l).length := by rw [keyNums_length]; exact hi
    have hc := h.cells (g := g) rfl i (.int .u8 ((keyNums l).getD i 0)) (by simp [List.getElem?_eq_getElem hi', List.getD_eq_getElem?_getD])
    have ha : (⟨g, 0, none⟩ : Addr).add i = ⟨g, 0 + i, none⟩ := by unfold Addr.add; split <;> simp_all
    rwa [ha] at hc
theorem WStep.drewN {U : List Int} {w w1 : World} {b : WB} {vs : List Int} (_ : WStep U w w b b vs vs) (hb : Below w.heap.size w w1) (h : WInv w1 b vs U) {n : Nat} : WStep U w (w1.drewN n) b b vs vs :=
  ⟨h.ext (N := noB) (Ext.drewN (Ext.refl _ _) n) fun _ hn _ => hn, List.prefix_refl _, (Ext.of_below hb).drewN n, rfl, rfl, rfl, rfl, .inl rfl⟩
theorem own_forms {w : World} {b : WB} {vs : List Int} {cap : Nat} {cur : Array Value}
    (h : w.heap[b.p]? = some (.cells #[.slice (some ⟨b.f, 0, none⟩) vs.length cap, .map (some b.r1), .map (some b.r2), .map (some b.r3)] 107 (0, 0)) ∧
      w.heap[b.f]? = some (.cells cur 96 (0, 0)) ∧ vs.length ≤ cap ∧ cap ≤ maxLen ∧ cur.size = cap ∧
      ∀ (i : Nat) (x : Int), vs[i]? = some x → ∃ v, cur[i]? = some v ∧ TL w v (enc vs x) ∧ ∀ k, v.ownBlock = some k → ¬ b.M k) :
    w.ownsRow 0 96 1 (.slice (some ⟨b.f, 0, none⟩) vs.length cap) vs.length (cur.toList.take vs.length) := by
  obtain ⟨_, f2, f3, f4, f5, _⟩ := h
  refine ⟨by simp; omega, .inr ⟨b.f, cap, cur, rfl, Nat.zero_le _, f2, f3, f4, by omega, by simp⟩⟩
theorem WInv.room_push {w : World} {b : WB} {vs U : List Int} (h : WInv w b vs U) {x : Int} (hx : x ∉ vs) (hU : x ∈ U) : vs.length + 1 ≤ roomW := by
  have := nodup_sub_length (a := x :: vs) (b := U) (List.nodup_cons.2 ⟨hx, h.cl.nodup⟩) fun y hy => by
    rcases List.mem_cons.1 hy with rfl | hy
    · exact hU
    · exact h.sub y hy
  have := h.room
  simp only [List.length_cons] at *
  omega
theorem push_done {U vs : List Int} {w wr w1 w2 w3 : World} {b : WB} {x : Int} {v : Value} {cap cap' g : Nat} {cur : Array Value}
    (hb : Below w.heap.size w wr) (hw0 : WInv w b vs U) (hw : WInv wr b vs U) (hl : TL w v (enc vs x)) (hc : Cov vs x) (hx : x ∉ vs) (hU : x ∈ U) (hv : ∀ k, v.ownBlock = some k → ¬ b.M k)
    (hf : wr.heap[b.p]? = some (.cells #[.slice (some ⟨b.f, 0, none⟩) vs.length cap, .map (some b.r1), .map (some b.r2), .map (some b.r3)] 107 (0, 0)) ∧
      wr.heap[b.f]? = some (.cells cur 96 (0, 0)) ∧ vs.length ≤ cap ∧ cap ≤ maxLen ∧ cur.size = cap ∧
      ∀ (i : Nat) (x : Int), vs[i]? = some x → ∃ v, cur[i]? = some v ∧ TL wr v (enc vs x) ∧ ∀ k, v.ownBlock = some k → ¬ b.M k)
    (ho : w1.ownsRow 0 96 1 (.slice (some ⟨g, 0, none⟩) (vs.length + 1) cap') (vs.length + 1) (cur.toList.take vs.length ++ [v]))
    (hg : wr.grownBy w1 (some b.f)) (hn : g = b.f ∨ wr.heap.size ≤ g)
    (h2p : w2.heap[b.p]? = some (.cells #[.slice (some ⟨g, 0, none⟩) (vs.length + 1) cap', .map (some b.r1), .map (some b.r2), .map (some b.r3)] 107 (0, 0)))
    (h2 : Ext (fun k => k = b.p) w1 w2)
    (hm : MapIs (fun s : ByteArray => Value.string s) w3 b.r1 (placesOf vs ++ [(keyS (enc vs x), (vs.length : Int))])) (h3 : w2.grownBy w3 (some b.r1)) :
    WStep U w w3 b { b with f := g } vs (vs ++ [x]) := by
  obtain ⟨f1, f2, f3, f4, f5, f6⟩ := hf
  obtain ⟨a1, a2, a3, a4, a5, a6, a7, a8, a9, a10⟩ := hw.apart
  have hlt := hw.lt
  have hp : b.p < wr.heap.size := hlt _ (.inl rfl)
  have hr1 : b.r1 < wr.heap.size := hlt _ (.inr (.inr (.inl rfl)))
  have hr2 : b.r2 < wr.heap.size := hlt _ (.inr (.inr (.inr (.inl rfl))))
  have hr3 : b.r3 < wr.heap.size := hlt _ (.inr (.inr (.inr (.inr rfl))))
  have gp : g ≠ b.p := by rcases hn with rfl | hn <;> omega
  have gr1 : g ≠ b.r1 := by rcases hn with rfl | hn <;> omega
  have gr2 : g ≠ b.r2 := by rcases hn with rfl | hn <;> omega
  have gr3 : g ≠ b.r3 := by rcases hn with rfl | hn <;> omega
  have s1 := hg.size
  have s2 := h2.size
  have keep13 : ∀ k, k < w1.heap.size → k ≠ b.p → k ≠ b.r1 → w3.heap[k]? = w1.heap[k]? := fun k hk h1 h2' =>
    (h3.block k (by omega) (fun e => h2' (Option.some.inj e))).trans (h2.block k hk h1)
  have keep : ∀ k, k < wr.heap.size → k ≠ b.p → k ≠ b.r1 → k ≠ b.f → w3.heap[k]? = wr.heap[k]? := fun k hk h1 h2' h3' =>
    (keep13 k (by omega) h1 h2').trans (hg.block k hk (fun e => h3' (Option.some.inj e)))
  have hpre : vs <+: vs ++ [x] := List.prefix_append _ _
  refine ⟨⟨hw.cl.push hx hc, ?_, hw.room, ?_, ?_, ?_, ?_, ?_⟩, hpre, ?_, rfl, rfl, rfl, rfl, ?_⟩
  · intro y hy
    rcases List.mem_append.1 hy with hy | hy
    · exact hw.sub y hy
    · simp at hy; subst hy; exact hU
  · rcases ho.2 with ⟨e, _⟩ | ⟨g', cap2, cur2, e, _, o1, o2, o3, o4, o5⟩
    · simp at e
    · simp only [Value.slice.injEq, Option.some.injEq, Addr.mk.injEq, true_and, and_true] at e
      obtain ⟨rfl, rfl⟩ := e
      have hg1 : g < w1.heap.size := lt_of_blk o1
      have hcl : vs.length ≤ cur.toList.length := by simp; omega
      refine ⟨cap', cur2, ?_, ?_, by simpa using o2, o3, by omega, ?_⟩
      · rw [List.length_append]
        exact (h3.block b.p (lt_of_blk h2p) (fun e => a2 (Option.some.inj e))).trans h2p
      · exact (keep13 g hg1 gp gr1).trans o1
      · intro i y hy
        by_cases hi : i < vs.length
        · rw [List.getElem?_append_left hi] at hy
          obtain ⟨u, hu, ht, hk⟩ := f6 i y hy
          refine ⟨u, ?_, ?_, ?_⟩
          · have := congrArg (fun z => z[i]?) o5
            simp only [Nat.mul_one] at this
            rw [List.getElem?_take_of_lt (by omega), List.getElem?_append_left (by simp; omega), List.getElem?_take_of_lt hi] at this
            simpa [hu] using this
          · rw [enc_prefix hpre (hw.cl.cov (List.mem_of_getElem? hy))]
            exact ht.same (by have := h3.size; omega) fun k hk' hlt' => keep k hlt' (fun e => hk k hk' (.inl e)) (fun e => hk k hk' (.inr (.inr (.inl e)))) (fun e => hk k hk' (.inr (.inl e)))
          · intro k hk' hM
            have hkl := ht.lt k hk'
            rcases hM with e | e | e
            · exact hk k hk' (.inl e)
            · simp only at e
              rcases hn with rfl | hn
              · exact hk k hk' (.inr (.inl e))
              · omega
            · exact hk k hk' (.inr (.inr e))
        · rw [List.getElem?_append_right (by omega)] at hy
          have h0 : i - vs.length = 0 := by
            rcases Nat.eq_zero_or_pos (i - vs.length) with h0 | h0
            · exact h0
            · rw [List.getElem?_eq_none (by simp; omega)] at hy; simp at hy
          have hie : i = vs.length := by omega
          rw [h0] at hy
          simp at hy
          subst hy
          subst hie
          have hl' := hl.below hb
          refine ⟨v, ?_, ?_, ?_⟩
          · have := congrArg (fun z => z[vs.length]?) o5
            simp only [Nat.mul_one] at this
            rw [List.getElem?_take_of_lt (by omega), List.getElem?_append_right (by simp; omega)] at this
            have h0 : vs.length - min vs.length cur.size = 0 := by simp at hcl; omega
            simpa [h0] using this
          · rw [enc_prefix hpre hc]
            exact hl'.same (by have := h3.size; omega) fun k hk' hlt' => keep k hlt' (fun e => hv k hk' (.inl e)) (fun e => hv k hk' (.inr (.inr (.inl e)))) (fun e => hv k hk' (.inr (.inl e)))
          · intro k hk' hM
            have hkl := hl'.lt k hk'
            rcases hM with e | e | e
            · exact hv k hk' (.inl e)
            · simp only at e
              rcases hn with rfl | hn
              · exact hv k hk' (.inr (.inl e))
              · omega
            · exact hv k hk' (.inr (.inr e))
  · rw [placesOf_push hw.cl hc]
    exact hm
  · obtain ⟨l, g1, g2, g3⟩ := hw.greater
    refine ⟨l, g1.same (keep _ hr2 (fun e => a3 e.symm) (fun e => a8 e.symm) (fun e => a6 e.symm)), g2, fun q hq => ?_⟩
    obtain ⟨i, j, e1, e2, y, e3, e4⟩ := g3 q hq
    exact ⟨i, j, e1, e2, y, getElem?_prefix hpre e3, getElem?_prefix hpre e4⟩
  · obtain ⟨l, g1, g2, g3⟩ := hw.order
    refine ⟨l, g1.same (keep _ hr3 (fun e => a4 e.symm) (fun e => a9 e.symm) (fun e => a7 e.symm)), g2, fun q hq => ?_⟩
    obtain ⟨i, j, e1, y, z, e3, e4, e5⟩ := g3 q hq
    exact ⟨i, j, e1, y, z, getElem?_prefix hpre e3, getElem?_prefix hpre e4, e5⟩
  · exact ⟨gp.symm, a2, a3, a4, gr1, gr2, gr3, a8, a9, a10⟩
  · refine ((Ext.of_below hb).grown hg fun k hk => .inl (.inr (.inl (Option.some.inj hk).symm))).trans (N := fun k => k = b.p ∨ k = b.r1) ?_ ?_
    · refine ((h2.imp (M := fun k => k = b.p ∨ k = b.r1) fun k hk => .inl (.inl hk)).grown h3 fun k hk => .inl (.inr (Option.some.inj hk).symm))
    · intro k hk
      rcases hk with rfl | rfl
      · exact .inl (.inl rfl)
      · exact .inl (.inr (.inr (.inl rfl)))
  · rcases hn with e | e
    · exact .inl e
    · exact .inr (Nat.le_trans hb.size e)
def WFree (w : World) (b : WB) (vs : List Int) (q : Nat) : Prop := ¬ b.M q ∧ ∀ i, i < vs.length → ∀ v, w.cell? ⟨b.f, i, none⟩ = some v → v.ownBlock ≠ some q
def FStep (X : Nat → Prop) (w w' : World) (b b' : WB) (vs vs' : List Int) : Prop := ∀ q, q < w.heap.size → ¬ X q → WFree w b vs q → WFree w' b' vs' q
theorem FStep.refl {X : Nat → Prop} {w : World} {b : WB} {vs : List Int} : FStep X w w b b vs vs := fun _ _ _ h => h
theorem FStep.trans {X Y : Nat → Prop} {w w1 w2 : World} {b b1 b2 : WB} {vs vs1 vs2 : List Int} (h : FStep X w w1 b b1 vs vs1) (k : FStep Y w1 w2 b1 b2 vs1 vs2) (hs : w.heap.size ≤ w1.heap.size) (hY : ∀ q, Y q → X q ∨ w.heap.size ≤ q) : FStep X w w2 b b2 vs vs2 :=
  fun q hq hX hf => k q (Nat.lt_of_lt_of_le hq hs) (fun hy => by rcases hY q hy with h1 | h1; exact hX h1; omega) (h q hq hX hf)
theorem FStep.same {N X : Nat → Prop} {w w1 : World} {b : WB} {vs : List Int} (e : Ext N w w1) (hf : b.f < w.heap.size) (hN : ¬ N b.f) : FStep X w w1 b b vs vs :=
  fun q _ _ h => ⟨h.1, fun i hi v hv => h.2 i hi v (by rwa [cell_same (e.block b.f hf hN)] at hv)⟩
theorem WInv.extF {N : Nat → Prop} {w w1 : World} {b : WB} {vs U : List Int} (h : WInv w b vs U) (e : Ext N w w1) (hN : ∀ k, N k → k < w.heap.size → WFree w b vs k) : WInv w1 b vs U where
  cl := h.cl
  sub := h.sub
  room := h.room
  forms := by
    obtain ⟨cap, cur, h1, h2, h3, h4, h5, h6⟩ := h.forms
    refine ⟨cap, cur, e.get h1 (fun hn => (hN _ hn (lt_of_blk h1)).1 (.inl rfl)), e.get h2 (fun hn => (hN _ hn (lt_of_blk h2)).1 (.inr (.inl rfl))), h3, h4, h5, fun i x hx => ?_⟩
    obtain ⟨v, hv, ht, hk⟩ := h6 i x hx
    exact ⟨v, hv, ht.same e.size fun q hb hlt => e.block q hlt (fun hn => (hN q hn hlt).2 i (List.getElem?_eq_some_iff.1 hx).1 v (by rw [cell_of_blk h2]; exact hv) hb), hk⟩
  places := h.places.same (e.block _ h.places.lt fun hn => (hN _ hn h.places.lt).1 (.inr (.inr (.inl rfl))))
  greater := by
    obtain ⟨l, h1, h2⟩ := h.greater
    exact ⟨l, h1.same (e.block _ h1.lt fun hn => (hN _ hn h1.lt).1 (.inr (.inr (.inr (.inl rfl))))), h2⟩
  order := by
    obtain ⟨l, h1, h2⟩ := h.order
    exact ⟨l, h1.same (e.block _ h1.lt fun hn => (hN _ hn h1.lt).1 (.inr (.inr (.inr (.inr rfl))))), h2⟩
  apart := h.apart
theorem WInv.fresh {w : World} {b : WB} {vs U : List Int} (h : WInv w b vs U) {q : Nat} (hq : w.heap.size ≤ q) : WFree w b vs q := by
  refine ⟨fun hM => by have := h.lt q hM; omega, fun i hi v hv e => ?_⟩
  obtain ⟨cap, cur, h1, h2, h3, h4, h5, h6⟩ := h.forms
  obtain ⟨u, e1, e2, _⟩ := h6 i _ (List.getElem?_eq_getElem hi)
  rw [cell_of_blk h2, e1] at hv
  obtain rfl := Option.some.inj hv
  have := e2.lt q e
  omega
theorem own_lower {w : World} {B B' e s n : Nat} {v : Value} {xs : List Value} (h : w.ownsRow B e s v n xs) (hB : B' ≤ B) : w.ownsRow B' e s v n xs := by
  refine ⟨h.1, ?_⟩
  rcases h.2 with h | ⟨g, cap, cur, e1, q0, q1, q⟩
  · exact .inl h
  · exact .inr ⟨g, cap, cur, e1, Nat.le_trans hB q0, q1, q⟩
theorem own_ext {M : Nat → Prop} {w w1 : World} {B e s n : Nat} {v : Value} {xs : List Value} (h : w.ownsRow B e s v n xs) (hx : Ext M w w1) (hM : ∀ k, v.ownBlock = some k → ¬ M k) : w1.ownsRow B e s v n xs := by
  refine ⟨h.1, ?_⟩
  rcases h.2 with h | ⟨g, cap, cur, e1, q0, q1, q⟩
  · exact .inl h
  · exact .inr ⟨g, cap, cur, e1, q0, hx.get q1 (hM g (by rw [e1]; rfl)), q⟩
theorem WFree.same {N : Nat → Prop} {w w1 : World} {b : WB} {vs : List Int} {q : Nat} (h : WFree w b vs q) (e : Ext N w w1) (hf : b.f < w.heap.size) (hN : ¬ N b.f) : WFree w1 b vs q :=
  ⟨h.1, fun i hi v hv => h.2 i hi v (by rwa [cell_same (e.block b.f hf hN)] at hv)⟩
theorem push_free {vs : List Int} {w wr w1 w2 w3 : World} {b : WB} {x : Int} {v : Value} {cap' g : Nat} {cur : Array Value} {U : List Int}
    (hb : Below w.heap.size w wr) (hw0 : WInv w b vs U) (hfb : wr.heap[b.f]? = some (.cells cur 96 (0, 0))) (hcs : vs.length ≤ cur.size)
    (ho : w1.ownsRow 0 96 1 (.slice (some ⟨g, 0, none⟩) (vs.length + 1) cap') (vs.length + 1) (cur.toList.take vs.length ++ [v]))
    (hn : g = b.f ∨ wr.heap.size ≤ g) (h2 : Ext (fun k => k = b.p) w1 w2) (h3 : w2.grownBy w3 (some b.r1)) :
    FStep (fun q => v.ownBlock = some q) w w3 b { b with f := g } vs (vs ++ [x]) := by
  intro q hq hX hfr
  have hs := hb.size
  have hlt := hw0.lt
  obtain ⟨a1, a2, a3, a4, a5, a6, a7, a8, a9, a10⟩ := hw0.apart
  have hp := hlt b.p (.inl rfl)
  have hfl := hlt b.f (.inr (.inl rfl))
  have hr1 := hlt b.r1 (.inr (.inr (.inl rfl)))
  have gp : g ≠ b.p := by rcases hn with e | e; exact fun h => a1 (by rw [← h, e]); omega
  have gr : g ≠ b.r1 := by rcases hn with e | e; exact fun h => a5 (by rw [← e, h]); omega
  have hg1 : g < w1.heap.size := (ho.lt g rfl).2
  have e3 : w3.heap[g]? = w1.heap[g]? := (h3.block g (Nat.lt_of_lt_of_le hg1 h2.size) (fun e => gr (Option.some.inj e))).trans (h2.block g hg1 gp)
  refine ⟨fun hM => ?_, fun i hi u hu => ?_⟩
  · rcases hM with e | e | e | e | e
    · exact hfr.1 (.inl e)
    · rcases hn with e' | e'
      · exact hfr.1 (.inr (.inl (e.trans e')))
      · have e : q = g := e; omega
    · exact hfr.1 (.inr (.inr (.inl e)))
    · exact hfr.1 (.inr (.inr (.inr (.inl e))))
    · exact hfr.1 (.inr (.inr (.inr (.inr e))))
  · have hu' : w1.cell? ⟨g, i, none⟩ = some u := by rw [← cell_same e3]; exact hu
    have hl : (cur.toList.take vs.length).length = vs.length := by simp; omega
    simp only [List.length_append, List.length_cons, List.length_nil] at hi
    by_cases hiv : i < vs.length
    · have h1 : (cur.toList.take vs.length ++ [v])[i]? = cur[i]? := by
        rw [List.getElem?_append_left (by omega), List.getElem?_take_of_lt hiv]; simp
      have hci : i < cur.size := by omega
      have h2' := ho.cells (g := g) rfl i cur[i] (by rw [h1]; simp [hci])
      have ea : (⟨g, 0, none⟩ : Addr).add i = ⟨g, 0 + i, none⟩ := by unfold Addr.add; split <;> simp_all
      rw [ea, Nat.zero_add, hu'] at h2'
      refine hfr.2 i hiv u ?_
      rw [← cell_same (hb.block b.f hfl), cell_of_blk hfb, Option.some.inj h2']
      simp [hci]
    · have hie : i = vs.length := by omega
      have h1 : (cur.toList.take vs.length ++ [v])[i]? = some v := by
        rw [List.getElem?_append_right (by omega), hl, hie]; simp
      have h2' := ho.cells (g := g) rfl i v h1
      have ea : (⟨g, 0, none⟩ : Addr).add i = ⟨g, 0 + i, none⟩ := by unfold Addr.add; split <;> simp_all
      rw [ea, Nat.zero_add, hu'] at h2'
      rw [Option.some.inj h2']
      exact fun e => hX e
set_option maxRecDepth 100000 in
theorem id_any {w : World} {b : WB} {vs U : List Int} (h : WInv w b vs U) {v : Value} {x : Int} (hl : TL w v (enc vs x)) (hc : Cov vs x) (hU : x ∈ U) (hv : ∀ k, v.ownBlock = some k → ¬ b.M k) :
    Calls Try.prog 55 #[.pointer (some ⟨b.p, 0, none⟩), v] w fun e w' => ∃ vs' b', e = .returned (.int .i64 (vs'.idxOf x : Nat)) ∧ x ∈ vs' ∧ WStep U w w' b b' vs vs' ∧ FStep (fun q => v.ownBlock = some q) w w' b b' vs vs' := by
  obtain ⟨a, n, c, rfl⟩ := hl.slice
  obtain ⟨hn, hn1, hnc, hcell⟩ := hl.cells
  have hmk : ∀ w : World, (Instr.makeSlice 22 (.int .i64 0) (.int .i64 (5 * (n : Int)))).run Try.prog w = .ok (.slice (some ⟨w.heap.size, 0, none⟩) 0 (n * 5)) (w.alloc (.cells (madeCells #[.int .u8 0] (n * 5)) 5)) := by
    intro w
    have := run_mk0 el_u8 (n * 5) (by omega) w
    rw [show ((n * 5 : Nat) : Int) = 5 * (n : Int) by omega, Nat.mul_one] at this
    exact this
  have HN := Sealed.mk hn; clear hn
  have HL := Sealed.mk hl; clear hl
  have HC := Sealed.mk hcell; clear hcell
  have H := Sealed.mk h; clear h
  have HV := Sealed.mk hv; clear hv
  have HCov := Sealed.mk hc; clear hc
  have HU := Sealed.mk hU; clear hU
  go_enter Try.func55, Try.ntmps55
  go_wp2
  go_loopw [5, 17] (fun key i wr => ∃ k : Nat, k ≤ n ∧ i = .int .i64 k ∧ wr.ownsRow w.heap.size 5 1 key (k * 5) ((keyNums ((enc vs x).take k)).map (.int .u8 ·)) ∧ Below w.heap.size w wr) (fun _ i _ => n - (intOf i).toNat)
  case atStart =>
    refine ⟨0, Nat.zero_le _, rfl, ?_, (Below.refl _ _).alloc (Nat.le_refl _) _⟩
    simp only [List.take_zero, keyNums, List.map_nil]
    refine World.ownsRow_made w (madeCells #[.int .u8 0] (n * 5)) (n * 5) (Nat.le_refl _) (by unfold maxLen; omega) (by simp [size_madeCells])
  case round =>
    obtain ⟨k, hk, rfl, hown, hb⟩ := hrel
    have HO := Sealed.mk hown; clear hown
    by_cases hkn : k < n
    · obtain ⟨t, ht⟩ : ∃ t, (enc vs x)[k]? = some t := ⟨_, List.getElem?_eq_getElem (by rw [← HN.out]; exact hkn)⟩
      obtain ⟨b0, o0, rfl, h1, h2⟩ := HC.out k t ht
      have hb0 := lt_of_cell h1
      have h1' : wr.cell? ⟨b0, o0 + k * 2, none⟩ = some (.bool t.1) := (hb.cell (p := ⟨b0, o0 + k * 2, none⟩) hb0).trans h1
      have h2' : wr.cell? ⟨b0, o0 + k * 2 + 1, none⟩ = some (.int .i64 (t.2 : Int)) := (hb.cell (p := ⟨b0, o0 + k * 2 + 1, none⟩) hb0).trans h2
      have HT := Sealed.mk ht; clear ht h1 h2
      have hlt : t.2 < 4294967296 := by
        have h1 := enc_lt HCov.out t (List.mem_of_getElem? HT.out)
        have h2 := H.out.length
        unfold roomW at h2
        omega
      obtain ⟨m, q⟩ := t
      dsimp only at h1' h2' hlt
      cases m
      · go_wp2_with (at_builtin; go_must (refine ap_lit (m := 5) el_u8 (.tmp 23) (.tmp 40) rfl rfl rfl (HO.out.alloc _) rfl (by simp) rfl ?h1 ?h2 ?h3 ?h4))
        case h1 => simp [Value.oneCell']
        case h2 => omega
        case h3 => have := hb.size; simp; omega
        case h4 =>
          intro v' w' hown' hgrow _
          have HO' := Sealed.mk hown'; clear hown'
          go_wp2
          go_roundw
          case rel => exact ⟨k + 1, by omega, by go_num, key_round HT.out hlt HO'.out, (hb.alloc hb.size _).grown hgrow (by have := hb.size; simp; omega) (own_ge HO.out)⟩
          case measure => simp [intOf]; omega
      · go_wp2_with (at_builtin; go_must (refine ap_lit (m := 5) el_u8 (.tmp 23) (.tmp 40) rfl rfl rfl (HO.out.alloc _) rfl (by simp) rfl ?h1 ?h2 ?h3 ?h4))
        case h1 => simp [Value.oneCell']
        case h2 => omega
        case h3 => have := hb.size; simp; omega
        case h4 =>
          intro v' w' hown' hgrow _
          have HO' := Sealed.mk hown'; clear hown'
          go_wp2
          go_roundw
          case rel => exact ⟨k + 1, by omega, by go_num, key_round HT.out hlt HO'.out, (hb.alloc hb.size _).grown hgrow (by have := hb.size; simp; omega) (own_ge HO.out)⟩
          case measure => simp [intOf]; omega
    · have hw := H.out.below hb
      obtain ⟨cap, cur, f1, f2, f3, f4, f5, f6⟩ := hw.forms
      have c0 := cell_of_blk f1 0
      have c1 := cell_of_blk f1 1
      simp only [List.getElem?_toArray, List.getElem?_cons_zero, List.getElem?_cons_succ] at c0 c1
      have hko : wr.ownsRow w.heap.size 5 1 u5 ((enc vs x).length * 5) ((keyNums (enc vs x)).map (.int .u8 ·)) := by
        have h1 := HO.out
        have e : k = (enc vs x).length := by rw [← HN.out]; omega
        rw [e, List.take_length] at h1
        exact h1
      have hcv : ∀ nq, (convert 22 9 u5).run Try.prog (wr.drewN nq) = .ok (.string (keyS (enc vs x))) (wr.drewN nq) := fun nq => conv_key hko.drewN
      have hlk : ∀ nq, (Instr.lookup 103 (.map (some b.r1)) (.string (keyS (enc vs x))) true).run Try.prog (wr.drewN nq) = .ok (.tuple #[.int .i64 ((lookK (placesOf vs) (keyS (enc vs x))).getD 0), .bool (lookK (placesOf vs) (keyS (enc vs x))).isSome]) (wr.drewN nq) :=
        fun nq => run_lookup_ok kk_string Try.underlying103 zero_int (w := wr.drewN nq) (hw.places.same (w1 := wr.drewN nq) rfl) _
      rw [lookK_places hw.cl hw.length HCov.out] at hlk
      have HF := Sealed.mk (And.intro f1 (And.intro f2 (And.intro f3 (And.intro f4 (And.intro f5 f6))))); clear f1 f2 f3 f4 f5 f6
      have HW := Sealed.mk hw; clear hw
      have HKO := Sealed.mk hko; clear hko
      by_cases hx : x ∈ vs
      · rw [if_pos hx] at hlk
        simp only [Option.getD_some, Option.isSome_some] at hlk
        have HX := Sealed.mk hx; clear hx
        go_wp2
        go_quiet (fail)
        go_wp2
        go_ret
        exact ⟨vs, b, rfl, HX.out, (WStep.refl H.out).drewN hb HW.out, FStep.same ((Ext.of_below (M := noB) hb).drewN nq) (H.out.lt b.f (.inr (.inl rfl))) (fun h => h)⟩
      · rw [if_neg hx] at hlk
        simp only [Option.getD_none, Option.isSome_none] at hlk
        have HX := Sealed.mk hx; clear hx
        go_wp2
        go_quiet (fail)
        have hlen := HW.out.room_push HX.out HU.out
        unfold roomW at hlen
        go_wp2_with (at_builtin; go_must (refine ap_litp (m := 1) el_terms (.tmp 64) (.tmp 66) rfl rfl rfl (own_forms HF.out).drewN rfl (by simp) rfl (by decide) ?g1 ?g2 ?g3 ?g4))
        case g1 => simp [Value.oneCell']
        case g2 => omega
        case g3 => simp
        case g4 =>
          intro g cap' w1 hown' hgrow hnew
          obtain ⟨f1, f2, f3, f4, f5, f6⟩ := HF.out
          have hap := HW.out.apart
          have g1 : w1.heap[b.p]? = some (.cells #[.slice (some ⟨b.f, 0, none⟩) vs.length cap, .map (some b.r1), .map (some b.r2), .map (some b.r3)] 107 (0, 0)) := (hgrow.block b.p (lt_of_blk f1) (by simp [Value.ownBlock]; exact hap.1)).trans f1
          have d0 := cell_of_blk g1 0
          simp only [List.getElem?_toArray, List.getElem?_cons_zero, List.getElem?_cons_succ] at d0
          have d1 := frozen_of_blk g1 0
          have HG := Sealed.mk g1; clear g1
          have HF1 := Sealed.mk f1; clear f1
          have HO' := Sealed.mk hown'; clear hown'
          have HGR := Sealed.mk hgrow; clear hgrow
          clear f2 f3 f4 f5 f6 hap hlk hcv c0 c1
          go_wp2
          obtain ⟨W2, hW2⟩ : ∃ W2, W2 = w1.setCell ⟨b.p, 0, none⟩ (.slice (some ⟨g, 0, none⟩) (vs.length + 1) cap') := ⟨_, rfl⟩
          rw [← hW2]
          have e2 : Ext (fun k => k = b.p) w1 W2 := by rw [hW2]; exact (Ext.refl (fun k => k = b.p) w1).setCell (p := ⟨b.p, 0, none⟩) (.inl rfl) _
          have p2 : W2.heap[b.p]? = some (.cells #[.slice (some ⟨g, 0, none⟩) (vs.length + 1) cap', .map (some b.r1), .map (some b.r2), .map (some b.r3)] 107 (0, 0)) := by rw [hW2]; exact blk_setCell HG.out 0 _
          have c1 := cell_of_blk p2 1
          simp only [List.getElem?_toArray, List.getElem?_cons_zero, List.getElem?_cons_succ] at c1
          have hgr : wr.grownBy w1 (some b.f) := ⟨HGR.out.os, HGR.out.tape, HGR.out.output, HGR.out.size, HGR.out.block⟩
          have hko2 : W2.ownsRow w.heap.size 5 1 u5 ((enc vs x).length * 5) ((keyNums (enc vs x)).map (.int .u8 ·)) := by
            have hlt := H.out.lt
            have h1 := HKO.out.kept hgr (by
              cases hu : u5.ownBlock with
              | none => exact .inl rfl
              | some q =>
                refine .inr fun e => ?_
                have := (HKO.out.lt q hu).1
                have := hlt b.f (.inr (.inl rfl))
                have e' : q = b.f := Option.some.inj e
                omega)
            refine h1.kept (row := some b.p) ⟨e2.os, e2.tape, e2.output, e2.size, fun k hk hn => e2.block k hk fun e => hn (by rw [e])⟩ ?_
            cases hu : u5.ownBlock with
            | none => exact .inl rfl
            | some q =>
              refine .inr fun e => ?_
              have := (HKO.out.lt q hu).1
              have := hlt b.p (.inl rfl)
              have e' : q = b.p := Option.some.inj e
              omega
          have hcv : (convert 22 9 u5).run Try.prog W2.drew = .ok (.string (keyS (enc vs x))) W2.drew := conv_key (w := W2.drew) hko2
          clear hW2
          have HKO2 := Sealed.mk hko2; clear hko2
          have HP2 := Sealed.mk p2; clear p2
          have HE2 := Sealed.mk e2; clear e2
          have HGR2 := Sealed.mk hgr; clear hgr
          refine wp_region_still_tail 7 (by kernel_rfl) (by kernel_rfl) ?_
          simp only [List.take_succ_cons, List.take_zero, List.drop_succ_cons, List.drop_zero]
          repeat still_step
          refine wpStill_nil ?_
          change wpList _ _ _ _ _ W2.drew
          have hlw := HW.out.length
          refine wp_update kk_string Try.underlying103 (.tmp 73) (.tmp 75) (.tmp 76) rfl rfl (placesOf_apart HW.out.cl hlw) (l := placesOf vs) (r := b.r1) ?m0 (keyS (enc vs x)) (vs.length : Int) rfl rfl rfl ?_
          case m0 =>
            refine HW.out.places.same ?_
            obtain ⟨a1, a2, a3, a4, a5, a6, a7, a8, a9, a10⟩ := HW.out.apart
            have hr1 := HW.out.lt b.r1 (.inr (.inr (.inl rfl)))
            exact (HE2.out.block b.r1 (by have := HGR.out.size; simp at this; omega) (fun e => a2 e.symm)).trans (HGR2.out.block b.r1 hr1 (fun e => a5 (Option.some.inj e).symm))
          intro w3 hm3 hg3
          have hpk : putK (placesOf vs) (keyS (enc vs x)) (vs.length : Int) = placesOf vs ++ [(keyS (enc vs x), (vs.length : Int))] := by
            unfold putK
            rw [lookK_places HW.out.cl hlw HCov.out, if_neg HX.out]
            rfl
          rw [hpk] at hm3
          have hgf : g = b.f ∨ wr.heap.size ≤ g := by
            rcases hnew with e | ⟨q, e, hq⟩
            · exact .inl (Option.some.inj e)
            · exact .inr (by have h1 : q = g := (Option.some.inj e).symm; have h2 : (wr.drewN nq).heap.size = wr.heap.size := rfl; omega)
          have hg3' : W2.grownBy w3 (some b.r1) := ⟨hg3.os, hg3.tape, hg3.output, hg3.size, hg3.block⟩
          have hst := push_done hb H.out HW.out HL.out HCov.out HX.out HU.out HV.out HF.out HO'.out HGR2.out hgf HP2.out HE2.out hm3 hg3'
          have hfs := push_free (x := x) hb H.out HF.out.2.1 (by have := HF.out; omega) HO'.out hgf HE2.out hg3'
          have HFS := Sealed.mk hfs; clear hfs hg3' hgf
          have HST := Sealed.mk hst; clear hst
          have hidx : (vs ++ [x]).idxOf x = vs.length := by
            have h1 : x ∉ vs := HX.out
            rw [List.idxOf_append, if_neg h1]; simp
          have HIDX := Sealed.mk hidx; clear hidx hm3 hg3 hpk hnew
          go_wp2
          go_ret
          exact ⟨vs ++ [x], { b with f := g }, congrArg (fun q : Nat => Ending.returned (.int .i64 (q : Int))) HIDX.out.symm, by simp, HST.out, HFS.out⟩
end Go.Proofs.Ytgchfbfgjanaiaa
