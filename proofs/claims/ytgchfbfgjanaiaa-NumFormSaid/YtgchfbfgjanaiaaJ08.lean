/- num.two, (num.N).Bytes and its closure -/
import Derived.Test.YtgchfbfgjanaiaaJ04
import Derived.Test.YtgchfbfgjanaiaaJ07
import Derived.StillTailTactics
import Derived.Deep.LoopGhost
import Derived.Deep.DeepCutAuto
import Derived.Deep.RegionHeld3
import Derived.Deep.RegionLaw
set_option linter.unusedSimpArgs false
set_option linter.unusedVariables false
namespace Go.Proofs.Ytgchfbfgjanaiaa
open Go.RowKit Sr
def twoN (n : Nat) : List Int := [((n / 256 : Nat) : Int), ((n % 256 : Nat) : Int)]
def termN (t : Bool × Nat) : List Int := (if t.1 then 1 else 0) :: twoN t.2
def termsN (l : List (Bool × Nat)) : List Int := l.flatMap termN
def formN (l : List (Bool × Nat)) : List Int := twoN l.length ++ termsN l
noncomputable def bytesN (x : Int) : List Int := twoN (weight x) ++ (plist x).flatMap (fun e : Nat => formN (enc (pvs x) (e : Int))) ++ formN (enc (pvs x) x)
def u8s (l : List Int) : List Value := l.map fun n => Value.int .u8 n
theorem u8s_append (a b : List Int) : u8s (a ++ b) = u8s a ++ u8s b := by simp [u8s]
theorem termsN_length : ∀ l : List (Bool × Nat), (termsN l).length = 3 * l.length
  | [] => rfl
  | t :: l => by
    have := termsN_length l
    have e : termsN (t :: l) = termN t ++ termsN l := rfl
    rw [e, List.length_append, this]
    simp [termN, twoN]
    omega
theorem formN_length (l : List (Bool × Nat)) : (formN l).length = 2 + 3 * l.length := by simp [formN, termsN_length, twoN]; omega
set_option maxRecDepth 100000 in
set_option maxHeartbeats 4000000 in
theorem two_any {w : World} {B m : Nat} {v : Value} {xs : List Value} (hown : w.ownsRow B 5 1 v m xs) (hB : B ≤ w.heap.size) (hm : m ≤ 100000000) {n : Nat} (hn : n < 65536) :
    Calls Try.prog 63 #[v, .int .i64 (n : Int)] w fun e w' => ∃ a c, e = .returned (.slice a (m + 2) c) ∧ w'.ownsRow B 5 1 (.slice a (m + 2) c) (m + 2) (xs ++ u8s (twoN n)) ∧ w.grownBy w' v.ownBlock ∧ NewOr w v (.slice a (m + 2) c) := by
  have HO := Sealed.mk hown; clear hown
  go_enter Try.func63, Try.ntmps63
  go_wp2_with (at_builtin; go_must (refine ap_lit (m := 2) el_u8 (.tmp 5) (.tmp 11) rfl rfl rfl HO.out rfl rfl rfl ?h1 ?h2 ?h3 ?h4))
  case h1 => simp [Value.oneCell']
  case h2 => omega
  case h3 => exact hB
  case h4 =>
    intro v' w' hown' hgrow hnew
    have HN := Sealed.mk (And.intro hown' (And.intro hgrow hnew)); clear hown' hgrow hnew
    go_wp2
    go_ret
    obtain ⟨a', c', rfl⟩ := own_slice HN.out.1
    refine ⟨a', c', rfl, ?_, HN.out.2.1, HN.out.2.2⟩
    have h := HN.out.1
    have e1 : ((n / 256 : Nat) : Int) = (n : Int) / 256 := by omega
    have e2 : ((n % 256 : Nat) : Int) = (n : Int) % 256 := by omega
    simp only [u8s, twoN, List.map_cons, List.map_nil, e1, e2]
    exact h
theorem termsN_take {l : List (Bool × Nat)} {k : Nat} {t : Bool × Nat} (h : l[k]? = some t) : termsN (l.take (k + 1)) = termsN (l.take k) ++ ((if t.1 then 1 else 0) :: twoN t.2) := by
  rw [take_snoc h]
  simp [termsN, termN]
theorem grown_new {W w1 w2 : World} {v v1 : Value} (h : W.grownBy w1 v.ownBlock) (hn : NewOr W v v1) (k : w1.grownBy w2 v1.ownBlock) : W.grownBy w2 v.ownBlock := by
  refine ⟨k.os.trans h.os, k.tape.trans h.tape, k.output.trans h.output, Nat.le_trans h.size k.size, fun i hi hne => (k.block i (Nat.lt_of_lt_of_le hi h.size) fun e => ?_).trans (h.block i hi hne)⟩
  rcases hn with e1 | ⟨q, e1, e2⟩
  · exact hne (by rw [← e1, e])
  · rw [e1] at e
    have := Option.some.inj e
    omega
theorem NewOr.step {W w1 : World} {v v1 v2 : Value} (h : NewOr W v v1) (k : NewOr w1 v1 v2) (hs : W.heap.size ≤ w1.heap.size) : NewOr W v v2 := by
  rcases k with e | ⟨q, e, hq⟩
  · rcases h with h | ⟨q, h, hq⟩
    · exact .inl (e.trans h)
    · exact .inr ⟨q, e.trans h, hq⟩
  · exact .inr ⟨q, e, by omega⟩
theorem step_ap_drew {P : Program} {ops : Array Oper} {o : Oper} {a : Act} {K : Act → World → Prop} {Q : Exit → Act → World → Prop} {X : Prop} {t e size bytes : Nat} {z : Value} (E : ElemT P t e size z bytes) {W : World} {B n b : Nat} {v u : Value} {xs : List Value} (s x : Operand) (hgd : o.guard = none)
    (ho : o.op = .call { callee := .builtin .append, args := #[s, x], argTypes := #[t, t] }) (hs : a.eval s = v) (hown : W.ownsRow B e size v n xs)
    (hx : a.eval x = .slice (some ⟨b, 0, none⟩) 1 1) (hb : b = W.heap.size) (h1 : u.oneCell' = true) (hs1 : size = 1)
    (hn : n + 1 ≤ 1000000000) (hB : B ≤ W.heap.size)
    (h : ∀ g cap w', w'.ownsRow B e size (.slice (some ⟨g, 0, none⟩) (n + 1) cap) (n + 1) (xs ++ [u]) → (W.alloc (.cells #[u] e)).grownBy w' v.ownBlock → NewOr (W.alloc (.cells #[u] e)) v (.slice (some ⟨g, 0, none⟩) (n + 1) cap) → K (a.put o.dst (.slice (some ⟨g, 0, none⟩) (n + 1) cap)) w') :
    if Region.wanted o (yielded ops a.tmps) = true then Oper.wp P o a (W.alloc (.cells #[u] e)).drew K Q else X :=
  step_ap_lit E (W := W.drew) s x hgd ho hs (show W.drew.ownsRow B e size v n xs from hown) hx hb h1 hs1 hn hB fun g cap w' q1 q2 q3 => h g cap w' q1 ⟨q2.os, q2.tape, q2.output, q2.size, q2.block⟩ q3
theorem ne_new {W : World} {v v1 : Value} {bo : Nat} (h : NewOr W v v1) (hne : v.ownBlock ≠ some bo) (hlt : bo < W.heap.size) : v1.ownBlock ≠ some bo := fun e => by
  rcases h with e1 | ⟨q, e1, e2⟩
  · exact hne (by rw [← e1, e])
  · rw [e1] at e
    have := Option.some.inj e
    omega
theorem TL.low {w W : World} {B : Nat} {v : Value} {l : List (Bool × Nat)} (h : TL w v l) (hb : Below B w W) (hv : ∀ b, v.ownBlock = some b → b < B) : TL W v l :=
  h.same hb.size fun b hb' _ => hb.block b (hv b hb')
structure BY (w : World) (B bo : Nat) (W : World) (m : Nat) (ov : Value) (xs : List Int) : Prop where
  below : Below B w W
  var : W.heap[bo]? = some (.cells #[ov] 22 (0, 0))
  own : W.ownsRow B 5 1 ov m (u8s xs)
  ne : ov.ownBlock ≠ some bo
  base : B ≤ w.heap.size
theorem BY.put {w W w1 : World} {B bo m m1 : Nat} {ov v1 : Value} {xs ys : List Int} (h : BY w B bo W m ov xs) (hg : W.grownBy w1 ov.ownBlock) (hn : NewOr W ov v1) (hown : w1.ownsRow B 5 1 v1 m1 (u8s ys)) (hB : B ≤ bo) :
    BY w B bo (w1.setCell ⟨bo, 0, none⟩ v1) m1 v1 ys where
  below := by
    have hlt := lt_of_blk h.var
    have := h.below.grown hg (Nat.le_trans h.base h.below.size) fun q hq => own_ge h.own q hq
    exact this.setCell (p := ⟨bo, 0, none⟩) hB _
  var := by
    have z := (hg.block bo (lt_of_blk h.var) (fun e => h.ne e.symm)).trans h.var
    rw [blk_setCell z 0 _]
    rfl
  own := by
    have hx : Ext (fun q => q = bo) w1 (w1.setCell ⟨bo, 0, none⟩ v1) := (Ext.refl (fun q => q = bo) w1).setCell (p := ⟨bo, 0, none⟩) (.inl rfl) _
    refine own_ext hown hx fun q hq e => ?_
    rcases hn with e1 | ⟨k, e1, e2⟩
    · exact h.ne (by rw [← e1, hq, e])
    · rw [e1] at hq
      have := Option.some.inj hq
      have := lt_of_blk h.var
      omega
  ne := fun hq => by
    rcases hn with e1 | ⟨k, e1, e2⟩
    · exact h.ne (by rw [← e1, hq])
    · rw [e1] at hq
      have := Option.some.inj hq
      have := lt_of_blk h.var
      omega
  base := h.base
set_option maxRecDepth 100000 in
set_option maxHeartbeats 4000000 in
theorem bytesW_any {w : World} {B bo m : Nat} {ov v : Value} {xs : List Int} {l : List (Bool × Nat)} (h : BY w B bo w m ov xs) (hB : B ≤ bo) (hl : TL w v l) (hv : ∀ b, v.ownBlock = some b → b < B) (hl4 : l.length ≤ 60000) (hlt : ∀ t ∈ l, t.2 < 65536) (hm : m ≤ 10000000) :
    Calls Try.prog 64 #[v, .pointer (some ⟨bo, 0, none⟩)] w fun e w' => e = .returned (.tuple #[]) ∧ ∃ oa oc, BY w B bo w' (m + 2 + 3 * l.length) (.slice oa (m + 2 + 3 * l.length) oc) (xs ++ formN l) := by
  obtain ⟨a, n, c, rfl⟩ := hl.slice
  obtain ⟨hn, hn1, hnc, -⟩ := hl.cells
  have c0 : w.cell? ⟨bo, 0, none⟩ = some ov := (cell_of_blk h.var 0).trans rfl
  rw [← hn] at hl4 ⊢
  have h2 := two_any h.own (h.base) (by omega) (n := n) (by omega)
  have f0 : w.frozen? ⟨bo, 0, none⟩ = false := frozen_of_blk h.var 0
  have H := Sealed.mk (And.intro h (And.intro hl (And.intro hv (And.intro hlt hn)))); clear h hl hv hlt hn
  have H2 := Sealed.mk h2; clear h2
  go_enter Try.func64, Try.ntmps64
  go_wp2_with (go_at_call 63; go_must (refine H2.out.mono ?_; rintro e w1 ⟨a1, c1, rfl, hown1, hg1, hn1⟩; have z1 := (hg1.block bo (lt_of_blk H.out.1.var) (fun e => H.out.1.ne e.symm)).trans H.out.1.var; have d0 : w1.cell? ⟨bo, 0, none⟩ = some ov := (cell_of_blk z1 0).trans rfl; have d1 : w1.frozen? ⟨bo, 0, none⟩ = false := frozen_of_blk z1 0; have hby := H.out.1.put hg1 hn1 (ys := xs ++ twoN n) (by rw [u8s_append]; exact hown1) hB; have HBY := Sealed.mk hby; clear hby hown1 hg1 hn1 z1))
  go_loopg [12] n (fun j iv W => ∃ (k : Nat) (oa : Option Addr) (oc : Nat), j = n - k ∧ k ≤ n ∧ iv = .int .i64 (k : Int) ∧ BY w B bo W (m + 2 + 3 * k) (.slice oa (m + 2 + 3 * k) oc) (xs ++ twoN n ++ termsN (l.take k)))
  case atStart => exact ⟨0, a1, c1, rfl, Nat.zero_le _, rfl, by simpa [termsN] using HBY.out⟩
  case round =>
    obtain ⟨k, oa, oc, rfl, hk, rfl, hby⟩ := hrel
    by_cases hkn : k < n
    · obtain ⟨⟨mi, q⟩, ht⟩ : ∃ t, l[k]? = some t := ⟨_, List.getElem?_eq_getElem (by have := H.out.2.2.2.2; omega)⟩
      have hq := H.out.2.2.2.1 _ (List.mem_of_getElem? ht)
      have htl : TL wr (.slice a n c) l := H.out.2.1.low hby.below H.out.2.2.1
      obtain ⟨-, -, -, hcell⟩ := htl.cells
      obtain ⟨bb, oo, rfl, h1, h2⟩ := hcell k _ ht
      dsimp only at h1 h2 hq
      obtain ⟨W1, hW1⟩ : ∃ W1, W1 = wr.alloc (.cells #[.bool mi, .int .i64 (q : Int)] 98) := ⟨_, rfl⟩
      have kb : W1.heap[wr.heap.size]? = some (.cells #[.bool mi, .int .i64 (q : Int)] 98 (0, 0)) := by rw [hW1]; exact blk_alloc _ _
      have k0 : W1.cell? ⟨wr.heap.size, 0, none⟩ = some (.bool mi) := (cell_of_blk kb 0).trans rfl
      have hb1 : Below wr.heap.size wr W1 := by rw [hW1]; exact (Below.refl _ _).alloc (Nat.le_refl _) _
      have hby1 : BY w B bo W1 (m + 2 + 3 * k) (.slice oa (m + 2 + 3 * k) oc) (xs ++ twoN n ++ termsN (l.take k)) := by
        rw [hW1]
        exact ⟨hby.below.alloc (Nat.le_trans hby.base hby.below.size) _, blk_alloc_old hby.var _, hby.own.alloc _, hby.ne, hby.base⟩
      have hsz : W1.heap.size = wr.heap.size + 1 := by rw [hW1]; simp
      have hbow := lt_of_blk hby.var
      have hbox : ∀ q', (Value.slice oa (m + 2 + 3 * k) oc).ownBlock = some q' → q' < wr.heap.size := fun q' hq' => (hby.own.lt q' hq').2
      have y0 : W1.drew.cell? ⟨bo, 0, none⟩ = some (.slice oa (m + 2 + 3 * k) oc) := (cell_of_blk hby1.var 0).trans rfl
      have y1 : W1.drew.cell? ⟨wr.heap.size, 1, none⟩ = some (.int .i64 (q : Int)) := (cell_of_blk (show W1.drew.heap[wr.heap.size]? = _ from kb) 1).trans rfl
      have hmB : m + 2 + 3 * k ≤ 11000000 := by omega
      have y2 : ∀ si : Int, (W1.alloc (.cells #[.int .u8 si] 5)).drew.cell? ⟨bo, 0, none⟩ = some (.slice oa (m + 2 + 3 * k) oc) := fun si => (cell_of_blk (show (W1.alloc (.cells #[.int .u8 si] 5)).drew.heap[bo]? = _ from blk_alloc_old hby1.var _) 0).trans rfl
      have y3 : ∀ si : Int, (W1.alloc (.cells #[.int .u8 si] 5)).drew.cell? ⟨wr.heap.size, 1, none⟩ = some (.int .i64 (q : Int)) := fun si => (cell_of_blk (show (W1.alloc (.cells #[.int .u8 si] 5)).drew.heap[wr.heap.size]? = _ from blk_alloc_old kb _) 1).trans rfl
      have HB := Sealed.mk (And.intro hby1 (And.intro ht (And.intro kb (And.intro hsz (And.intro hbow hbox))))); clear hby hby1 ht htl hcell kb hsz hb1 hbow hbox
      cases mi
      all_goals
        go_upto_region 7 with fail
        rw [← hW1]
        have HW1 := Sealed.mk hW1
        clear hW1
        go_region_law
          (first
            | (refine step_ap_drew el_u8 (.tmp 18) (.tmp 20) rfl rfl rfl HB.out.1.own rfl rfl rfl rfl (by omega) (Nat.le_trans HB.out.1.base HB.out.1.below.size) ?_
               go_must (intro g7 c7 w7 ho7 hg7 hn7; have hs7 : W1.heap.size ≤ w7.heap.size := Nat.le_trans (by simp) hg7.size; have z7 := (hg7.block bo (by have := lt_of_blk HB.out.1.var; simp; omega) (fun e => HB.out.1.ne e.symm)).trans (blk_alloc_old HB.out.1.var _); have x7 := (hg7.block wr.heap.size (by have := HB.out.2.2.2.1; simp; omega) (fun e => by have := HB.out.2.2.2.2.2 _ e.symm; omega)).trans (blk_alloc_old HB.out.2.2.1 _); have y7 : w7.cell? ⟨wr.heap.size, 1, none⟩ = some (.int .i64 (q : Int)) := (cell_of_blk x7 1).trans rfl; have h27 := two_any ho7 (Nat.le_trans HB.out.1.base (Nat.le_trans HB.out.1.below.size hs7)) (by omega) hq; have H27 := Sealed.mk h27; have HO7 := Sealed.mk (And.intro ho7 (And.intro hg7 (And.intro hn7 (And.intro z7 hs7)))); clear h27 ho7 hg7 hn7 z7 x7 hs7))
            | (go_simp; go_at_call 63; go_must (refine H27.out.mono ?_; rintro e8 w8 ⟨a8, c8, rfl, ho8, hg8, hn8⟩; have z8 := (hg8.block bo (lt_of_blk HO7.out.2.2.2.1) (fun e => ne_new HO7.out.2.2.1 HB.out.1.ne (by have := lt_of_blk HB.out.1.var; simp; omega) e.symm)).trans HO7.out.2.2.2.1; have y8 : w8.cell? ⟨bo, 0, none⟩ = some (.slice oa (m + 2 + 3 * k) oc) := (cell_of_blk z8 0).trans rfl; have y8' : w8.frozen? ⟨bo, 0, none⟩ = false := frozen_of_blk z8 0; have HO8 := Sealed.mk (And.intro ho8 (And.intro hg8 hn8)); clear ho8 hg8 hn8 z8); try go_simp))
        all_goals
          go_wp2_with fail
          go_roundg (n - (k + 1))
          case measure => omega
          case rel =>
            have e3 : m + 2 + 3 * k + 1 + 2 = m + 2 + 3 * (k + 1) := by omega
            have hg7 := grown_trans (World.grownBy_alloc W1 _ _) HO7.out.2.1
            have hn7 := HO7.out.2.2.1.mono (show W1.heap.size ≤ _ by simp)
            refine ⟨k + 1, a8, c8, rfl, by omega, by push_cast; rfl, ?_⟩
            rw [← e3]
            refine HB.out.1.put (grown_new hg7 hn7 HO8.out.2.1) (hn7.step HO8.out.2.2 HO7.out.2.2.2.2) ?_ hB
            rw [termsN_take HB.out.2.1]
            have := HO8.out.1
            simpa [u8s] using this
    · have hkk : k = n := by omega
      have hty : termsN (l.take k) = termsN l := by rw [hkk, H.out.2.2.2.2, List.take_length]
      rw [hty, hkk] at hby
      have HBY2 := Sealed.mk hby
      clear hby hty hkk
      go_wp2_with fail
      refine bodyPost_end (v := .tuple #[]) (by simp [results, Try.results64, go_sem]) rfl ⟨rfl, oa, oc, ?_⟩
      have := HBY2.out
      rw [show xs ++ formN l = xs ++ twoN n ++ termsN l by unfold formN; rw [← H.out.2.2.2.2, List.append_assoc]]
      exact this
theorem flatN_length (f : Nat → List Int) (n : Nat) : ∀ l : List Nat, (∀ a ∈ l, (f a).length ≤ n) → (l.flatMap f).length ≤ l.length * n
  | [], _ => by simp
  | a :: l, h => by
    have h1 := flatN_length f n l fun b hb => h b (by simp [hb])
    have h2 := h a (by simp)
    simp only [List.flatMap_cons, List.length_append, List.length_cons, Nat.add_mul]
    omega
noncomputable def partsN (x : Int) (k : Nat) : List Int := twoN (weight x) ++ ((plist x).take k).flatMap fun e : Nat => formN (enc (pvs x) (e : Int))
theorem partsN_succ {x : Int} {k e : Nat} (h : (plist x)[k]? = some e) : partsN x (k + 1) = partsN x k ++ formN (enc (pvs x) (e : Int)) := by
  unfold partsN
  rw [take_snoc h]
  simp
theorem partsN_all (x : Int) : partsN x (plist x).length ++ formN (enc (pvs x) x) = bytesN x := by unfold partsN bytesN; rw [List.take_length]
theorem partsN_length {x : Int} (hx : Allowed x) (k : Nat) : (partsN x k).length ≤ 2000000 := by
  have h1 := flatN_length (fun e : Nat => formN (enc (pvs x) (e : Int))) 902 ((plist x).take k) fun e he => by
    have := hx.2.1 e (mem_plist.1 (List.mem_of_mem_take he))
    rw [formN_length]
    simp [enc]
    omega
  have h2 := hx.2.2.1
  unfold weight at h2
  have h3 : ((plist x).take k).length ≤ 1999 := by simp; omega
  unfold partsN
  simp only [List.length_append]
  have : (twoN (weight x)).length = 2 := rfl
  omega
set_option maxRecDepth 100000 in
set_option maxHeartbeats 4000000 in
theorem Bytes_any {w : World} {u : Value} {x : Int} (h : NumIs w u x) : Calls Try.prog 23 #[u] w fun e w' => ∃ a c, e = .returned (.slice a (bytesN x).length c) ∧ w'.ownsRow w.heap.size 5 1 (.slice a (bytesN x).length c) (bytesN x).length (u8s (bytesN x)) ∧ Below w.heap.size w w' := by
  obtain ⟨p, hp⟩ : ∃ p, u = .agg #[.pointer p] := by
    rcases h.2 with ⟨_, h⟩ | ⟨_, k, h, _⟩
    · exact ⟨none, h⟩
    · exact ⟨_, h⟩
  subst hp
  obtain ⟨np, hnp⟩ : ∃ np, np = (plist x).length := ⟨_, rfl⟩
  have hpa := fun W (hb : Below w.heap.size w W) => parts_at h hb
  have hsa := fun W (hb : Below w.heap.size w W) => self_at h hb
  obtain ⟨W1, hW1⟩ : ∃ W1, W1 = w.alloc (.cells #[.pointer p] 30) := ⟨_, rfl⟩
  have b1 : Below w.heap.size w W1 := by rw [hW1]; exact (Below.refl _ _).alloc (Nat.le_refl _) _
  have s1 : W1.heap.size = w.heap.size + 1 := by rw [hW1]; simp
  have x1 : W1.heap[w.heap.size]? = some (.cells #[.pointer p] 30 (0, 0)) := by rw [hW1]; exact blk_alloc _ _
  have hwt := Weight_any (h.below b1)
  have hw2 : weight x < 65536 := by have := h.1.2.2.1; omega
  rw [hW1] at hwt
  have HWT := Sealed.mk hwt; clear hwt
  have HPA := Sealed.mk (And.intro hpa hsa); clear hpa hsa
  have H := Sealed.mk (And.intro h hnp); clear h hnp
  have HX1 := Sealed.mk (And.intro hW1 (And.intro b1 (And.intro x1 s1))); clear hW1 b1 x1 s1
  obtain ⟨wx, hwx⟩ : ∃ wx, wx = weight x := ⟨_, rfl⟩
  rw [← hwx] at HWT hw2
  have HWX := Sealed.mk hwx; clear hwx
  go_enter Try.func23, Try.ntmps23
  go_upto_region 3 with (first
    | (go_at_call 44; go_must (refine HWT.out.mono ?_; rintro e w2 ⟨rfl, hb2⟩; have h2 := two_any (w := w2) (B := w.heap.size + 1) (World.ownsRow_nil _ _ _ _) (Nat.le_trans (by simp) hb2.size) (by omega) hw2; have H2 := Sealed.mk h2; have HB2 := Sealed.mk hb2; clear h2 hb2))
    | (go_at_call 63; go_must (refine H2.out.mono ?_; rintro e w3 ⟨a3, c3, rfl, hown3, hg3, hn3⟩; have H3 := Sealed.mk (And.intro hown3 (And.intro hg3 hn3)); clear hown3 hg3 hn3)))
  obtain ⟨W4, hW4⟩ : ∃ W4, W4 = w3.alloc (.cells #[.slice a3 2 c3] 22) := ⟨_, rfl⟩
  obtain ⟨bo, hbo⟩ : ∃ bo, bo = w3.heap.size := ⟨_, rfl⟩
  have s1 := HX1.out.2.2.2
  have b2 : Below (w.heap.size + 1) W1 w2 := by
    have hb := HB2.out
    rw [← HX1.out.1, s1] at hb
    exact hb
  have h12 : w.heap.size + 1 ≤ w2.heap.size := by have := b2.size; omega
  have b3 : Below (w.heap.size + 1) W1 w3 := b2.grown H3.out.2.1 h12 fun q hq => by simp [Value.ownBlock] at hq
  have b4 : Below (w.heap.size + 1) W1 W4 := by rw [hW4]; exact b3.alloc (Nat.le_trans h12 H3.out.2.1.size) _
  have z4 : W4.heap[bo]? = some (.cells #[.slice a3 2 c3] 22 (0, 0)) := by rw [hW4, hbo]; exact blk_alloc w3 _
  have hbw : w.heap.size < bo := by rw [hbo]; have := H3.out.2.1.size; omega
  have bw4 : Below w.heap.size w W4 := HX1.out.2.1.trans ⟨b4.os, b4.tape, b4.output, b4.size, fun q hq => b4.block q (by omega)⟩
  have c4 : W4.cell? ⟨w.heap.size, 0, none⟩ = some (.pointer p) := (cell_same (b4.block _ (by omega)) 0).trans ((cell_of_blk HX1.out.2.2.1 0).trans rfl)
  have hby4 : BY W1 (w.heap.size + 1) bo W4 2 (.slice a3 2 c3) (partsN x 0) := by
    refine ⟨b4, z4, ?_, fun hq => ?_, by omega⟩
    · rw [hW4]
      have := H3.out.1.alloc (.cells #[.slice a3 2 c3] 22)
      simpa [partsN, HWX.out] using this
    · have := (H3.out.1.lt _ hq).2
      omega
  have hpa4 := HPA.out.1 W4 bw4
  rw [← hW4, ← hbo]
  have HPA4 := Sealed.mk hpa4; clear hpa4
  have H4 := Sealed.mk (And.intro hW4 (And.intro hbo (And.intro bw4 (And.intro hby4 (And.intro s1 hbw))))); clear hW4 hbo b2 b3 b4 z4 hby4 hbw bw4 h12 s1
  go_wp2_with (go_at_call 65; go_must (refine HPA4.out.mono ?_; rintro e w5 ⟨v5, rfl, hp5, hb5⟩; have HP5 := Sealed.mk (And.intro hp5 hb5); obtain ⟨f5, a5, c5, rfl, r5, r5'⟩ := hp5; rw [← H.out.2] at r5 HP5 ⊢; clear f5 r5' hb5))
  go_loopg [14] np (fun j iv W => ∃ (k : Nat) (oa : Option Addr) (oc : Nat), j = np - k ∧ k ≤ np ∧ iv = .int .i64 (k : Int) ∧ BY W1 (w.heap.size + 1) bo W (partsN x k).length (.slice oa (partsN x k).length oc) (partsN x k))
  case atStart =>
    have hb := HP5.out.2
    have hby := H4.out.2.2.2.1
    have e2 : (partsN x 0).length = 2 := by simp [partsN, twoN]
    refine ⟨0, a3, c3, rfl, Nat.zero_le _, rfl, ?_⟩
    rw [e2]
    exact ⟨hby.below.trans ⟨hb.os, hb.tape, hb.output, hb.size, fun q hq => hb.block q (by have := hby.below.size; have := H4.out.2.2.2.2.1; omega)⟩, (hb.block _ (lt_of_blk hby.var)).trans hby.var, own_ext hby.own (Ext.of_below (M := noB) hb) (fun _ _ h => h), hby.ne, hby.base⟩
  case round =>
    obtain ⟨k, oa, oc, rfl, hk, rfl, hby⟩ := hrel
    have bww : Below w.heap.size w wr := HX1.out.2.1.trans ⟨hby.below.os, hby.below.tape, hby.below.output, hby.below.size, fun q hq => hby.below.block q (by have := HX1.out.2.2.2; omega)⟩
    have hc0 : wr.cell? ⟨w.heap.size, 0, none⟩ = some (.pointer p) := (cell_same (hby.below.block _ (by omega)) 0).trans ((cell_of_blk HX1.out.2.2.1 0).trans rfl)
    have hnp2 : np ≤ 2000 := by have := H.out.1.1.2.2.1; unfold weight at this; have := H.out.2; omega
    by_cases hkn : k < np
    · obtain ⟨e, he⟩ : ∃ e, (plist x)[k]? = some e := ⟨_, List.getElem?_eq_getElem (by have := H.out.2; omega)⟩
      obtain ⟨-, a', c', hv3, -, hr3⟩ := HP5.out.1
      obtain ⟨b, o, ha, hcell⟩ := hr3 (fun hh => by rw [hh] at he; simp at he)
      obtain ⟨hva, -, -⟩ := Value.slice.inj hv3
      rw [← hva] at ha
      subst ha
      obtain ⟨uk, hu1, hu2⟩ := hcell.get k e he
      obtain ⟨ua, un, ucp, rfl⟩ := hu2.slice
      have g0 : wr.cell? ⟨b, o + k, none⟩ = some (.slice ua un ucp) := (cell_same (bww.block b (lt_of_cell hu1)) _).trans hu1
      have hpe : Part e x := mem_plist.1 (List.mem_of_getElem? he)
      have hbw := bytesW_any (w := wr) (B := w.heap.size + 1) ⟨Below.refl _ _, hby.var, hby.own, hby.ne, Nat.le_trans hby.base hby.below.size⟩ (by have := H4.out.2.2.2.2.2; omega) (hu2.below bww) (fun q hq => by have := hu2.lt q hq; omega) (by have := H.out.1.1.2.1 e hpe; simp [enc]; omega)
        (fun t ht => by
          have h1 := enc_lt (pvs_cov_part hpe) t ht
          have h2 := H.out.1.1.2.2.1
          unfold weight at h2
          simp [pvs] at h1
          omega) (by have := partsN_length H.out.1.1 k; omega)
      have HBW := Sealed.mk hbw; clear hbw
      have HB := Sealed.mk (And.intro hby (And.intro he bww)); clear hby he bww hu1 hu2 hcell hr3 hv3 hva
      generalize hL : (partsN x k).length = L at HB HBW
      have HL := Sealed.mk hL; clear hL
      go_wp2_with (go_at_call 64; go_must (refine HBW.out.mono ?_; rintro e6 w6 ⟨rfl, oa6, oc6, hby6⟩; have HB6 := Sealed.mk hby6; clear hby6))
      go_roundg (np - (k + 1))
      case measure => omega
      case rel =>
        obtain ⟨hby, he, bww⟩ := HB.out
        have hby6 := HB6.out
        have hL : (partsN x (k + 1)).length = L + 2 + 3 * (enc (pvs x) (e : Int)).length := by rw [partsN_succ he, List.length_append, formN_length, HL.out]; omega
        refine ⟨k + 1, oa6, oc6, rfl, by omega, by push_cast; rfl, ?_⟩
        rw [hL, partsN_succ he]
        exact ⟨hby.below.trans ⟨hby6.below.os, hby6.below.tape, hby6.below.output, hby6.below.size, hby6.below.block⟩, hby6.var, hby6.own, hby6.ne, hby.base⟩
    · have hkk : k = np := by omega
      have hse := HPA.out.2 wr bww
      have HSE := Sealed.mk hse; clear hse
      have hl2 := partsN_length H.out.1.1 k
      have hlp : (pvs x).length = np := by simp [pvs, H.out.2]
      have hcl : ∀ (w7 : World) (v7 : Value), Below wr.heap.size wr w7 → TL w v7 (enc (pvs x) x) → Calls Try.prog 64 #[v7, .pointer (some ⟨bo, 0, none⟩)] w7 fun e w' => e = .returned (.tuple #[]) ∧ ∃ oa oc, BY w7 (w.heap.size + 1) bo w' ((partsN x k).length + 2 + 3 * (enc (pvs x) x).length) (.slice oa ((partsN x k).length + 2 + 3 * (enc (pvs x) x).length) oc) (partsN x k ++ formN (enc (pvs x) x)) := fun w7 v7 hb7 hl7 => by
        have b17 : Below w.heap.size w w7 := bww.trans ⟨hb7.os, hb7.tape, hb7.output, hb7.size, fun q hq => hb7.block q (by have := bww.size; omega)⟩
        refine bytesW_any (w := w7) (B := w.heap.size + 1) ⟨Below.refl _ _, (hb7.block _ (lt_of_blk hby.var)).trans hby.var, own_ext hby.own (Ext.of_below (M := noB) hb7) (fun _ _ h => h), hby.ne, Nat.le_trans (Nat.le_trans hby.base hby.below.size) hb7.size⟩ (by have := H4.out.2.2.2.2.2; omega) (hl7.below b17) (fun q hq => by have := hl7.lt q hq; omega) (by have := H.out.1.1.1; simp [enc]; omega)
          (fun t ht => by
            have h1 := enc_lt (pvs_cov x) t ht
            rw [hlp] at h1
            omega) (by omega)
      have HCL := Sealed.mk hcl; clear hcl
      have HB := Sealed.mk (And.intro hby (And.intro hkk bww)); clear hby hkk bww
      have hel : (partsN x k).length + 2 + 3 * (enc (pvs x) x).length = (bytesN x).length := by rw [← partsN_all, ← H.out.2, HB.out.2.1, List.length_append, formN_length]; omega
      have hep : partsN x k ++ formN (enc (pvs x) x) = bytesN x := by rw [HB.out.2.1, H.out.2, partsN_all]
      rw [hel, hep] at HCL
      generalize (partsN x k).length = L at HB hl2 hel
      obtain ⟨LB, hLB⟩ : ∃ LB, LB = (bytesN x).length := ⟨_, rfl⟩
      rw [← hLB] at HCL hel
      have HLB := Sealed.mk hLB.symm; clear hLB
      have HEL := Sealed.mk (And.intro hel hep); clear hel hep
      go_wp2_with (first
        | (go_at_call 66; go_must (refine HSE.out.mono ?_; rintro e w7 ⟨v7, rfl, hl7, hb7⟩; have HC7 := Sealed.mk (HCL.out w7 v7 hb7 hl7); have HB7 := Sealed.mk hb7; clear hl7 hb7))
        | (go_at_call 64; go_must (refine HC7.out.mono ?_; rintro e6 w8 ⟨rfl, oa8, oc8, hby8⟩; have d8 : w8.cell? ⟨bo, 0, none⟩ = some (.slice oa8 LB oc8) := (cell_of_blk hby8.var 0).trans rfl; have HB8 := Sealed.mk hby8; clear hby8)))
      go_ret
      have h8 := HB8.out
      have h7 := HB7.out
      obtain ⟨hby, hkk, bww⟩ := HB.out
      have b17 : Below w.heap.size w w7 := bww.trans ⟨h7.os, h7.tape, h7.output, h7.size, fun q hq => h7.block q (by have := bww.size; omega)⟩
      have b18 : Below w.heap.size w w8 := b17.trans ⟨h8.below.os, h8.below.tape, h8.below.output, h8.below.size, fun q hq => h8.below.block q (by omega)⟩
      rw [HLB.out]
      exact ⟨oa8, oc8, rfl, own_lower h8.own (by omega), b18⟩
end Go.Proofs.Ytgchfbfgjanaiaa
