/-
  the bytes of a number's parts, each once: plain
  a term of the call's own; the type of a block of the call's own
  bytes wherever they lie; sandreckonerref01.Same of them
  sandreckonerlaw01.distinct
  numbers of low exponents: plain
  numbers near a closed list: parts, weight, height: plain
  shifts of numbers: plain laws
  powers of two: plain laws; two numbers out of those that are made
  numbers stay while other memory of the call's own is written
  sums in another order: plain laws; lists of int8s in memory
  NumForm: plain
-/
import Derived.Test.YtgchfbfgjanaiaaJ34
import Derived.Test.YtgchfbfgjanaiaaJ30
import Derived.Test.YtgchfbfgjanaiaaC01
import Derived.Laws.IdiomStrings
import Derived.Deep.LoopGhost
import Derived.Deep.DeepCutAuto
import Derived.Test.YtgchfbfgjanaiaaJ20
import Derived.Test.YtgchfbfgjanaiaaC02
set_option linter.unusedSimpArgs false
set_option linter.unusedVariables false
namespace Go.Proofs.Ytgchfbfgjanaiaa
open Go.RowKit Sr
theorem allP_mem {x y : Int} : y ∈ allP x ↔ y = x ∨ ∃ e : Nat, Part e x ∧ y = (e : Int) := by
  unfold allP pvs
  simp only [List.mem_append, List.mem_map, List.mem_singleton]
  constructor
  · rintro (⟨e, he, rfl⟩ | rfl)
    · exact .inr ⟨e, mem_plist.1 he, rfl⟩
    · exact .inl rfl
  · rintro (rfl | ⟨e, he, rfl⟩)
    · exact .inr rfl
    · exact .inl ⟨e, mem_plist.2 he, rfl⟩
theorem allP_nodup (x : Int) : (allP x).Nodup := by
  unfold allP
  rw [List.nodup_append]
  refine ⟨pvs_nodup x, by simp, fun a ha b hb => ?_⟩
  simp at hb
  subst hb
  unfold pvs at ha
  obtain ⟨e, he, rfl⟩ := List.mem_map.1 ha
  have := (mem_plist.1 he).lt
  intro h
  omega
theorem allP_exp {x y : Int} {e : Nat} (h : y ∈ allP x) (he : e ∈ exps y) : (e : Int) ∈ allP x := by
  rcases allP_mem.1 h with rfl | ⟨f, hf, rfl⟩
  · exact allP_mem.2 (.inr ⟨e, .here he, rfl⟩)
  · exact allP_mem.2 (.inr ⟨e, hf.up he, rfl⟩)
theorem allP_sub {x y z : Int} (h : y ∈ allP x) (hz : z ∈ allP y) : z ∈ allP x := by
  rcases allP_mem.1 hz with rfl | ⟨f, hf, rfl⟩
  · exact h
  · rcases allP_mem.1 h with rfl | ⟨g, hg, rfl⟩
    · exact allP_mem.2 (.inr ⟨f, hf, rfl⟩)
    · exact allP_mem.2 (.inr ⟨f, hg.trans hf, rfl⟩)
theorem allP_allowed {x y : Int} (hx : Allowed x) (h : y ∈ allP x) : Allowed y := by
  rcases allP_mem.1 h with rfl | ⟨f, hf, rfl⟩
  · exact hx
  · exact allowed_part hx hf
structure DF (x : Int) (ys zs : List Int) : Prop where
  pre : ys <+: zs
  nodup : zs.Nodup
  has : x ∈ zs
  of : ∀ z ∈ zs, z ∈ ys ∨ z ∈ allP x
  up : ∀ z ∈ zs, z ∈ ys ∨ ∀ e ∈ exps z, (e : Int) ∈ zs
theorem DF.found {x : Int} {ys : List Int} (hn : ys.Nodup) (h : x ∈ ys) : DF x ys ys := ⟨List.prefix_refl _, hn, h, fun _ h => .inl h, fun _ h => .inl h⟩
structure DK (x : Int) (ys : List Int) (k : Nat) (zs : List Int) : Prop where
  pre : ys <+: zs
  nodup : zs.Nodup
  has : x ∈ zs
  of : ∀ z ∈ zs, z ∈ ys ∨ z ∈ allP x
  up : ∀ z ∈ zs, z ∈ ys ∨ z = x ∨ ∀ e ∈ exps z, (e : Int) ∈ zs
  done : ∀ i, i < k → ∀ t, (form x)[i]? = some t → (t.2 : Int) ∈ zs
theorem DK.start {x : Int} {ys : List Int} (hn : ys.Nodup) (h : x ∉ ys) : DK x ys 0 (ys ++ [x]) where
  pre := List.prefix_append _ _
  nodup := by
    rw [List.nodup_append]
    refine ⟨hn, by simp, fun a ha b hb => ?_⟩
    simp at hb
    subst hb
    intro e
    subst e
    exact h ha
  has := by simp
  of := fun z hz => by
    rcases List.mem_append.1 hz with hz | hz
    · exact .inl hz
    · simp at hz; exact .inr (allP_mem.2 (.inl hz))
  up := fun z hz => by
    rcases List.mem_append.1 hz with hz | hz
    · exact .inl hz
    · simp at hz; exact .inr (.inl hz)
  done := fun i hi => by omega
theorem DK.next {x : Int} {ys zs zs2 : List Int} {k : Nat} {t : T} (h : DK x ys k zs) (ht : (form x)[k]? = some t) (d : DF (t.2 : Int) zs zs2) : DK x ys (k + 1) zs2 where
  pre := h.pre.trans d.pre
  nodup := d.nodup
  has := d.pre.subset h.has
  of := fun z hz => by
    rcases d.of z hz with hz | hz
    · exact h.of z hz
    · have hx : (t.2 : Int) ∈ allP x := allP_exp (allP_mem.2 (.inl rfl)) (mem_exps.2 ⟨t, List.mem_of_getElem? ht, rfl⟩)
      rcases allP_mem.1 hz with rfl | ⟨f, hf, rfl⟩
      · exact .inr hx
      · rcases allP_mem.1 hx with e | ⟨g, hg, e⟩
        · exact .inr (allP_mem.2 (.inr ⟨f, by rw [← e]; exact hf, rfl⟩))
        · exact .inr (allP_mem.2 (.inr ⟨f, hg.trans (by rw [← e]; exact hf), rfl⟩))
  up := fun z hz => by
    rcases d.up z hz with hz | hz
    · rcases h.up z hz with h1 | h1 | h1
      · exact .inl h1
      · exact .inr (.inl h1)
      · exact .inr (.inr fun e he => d.pre.subset (h1 e he))
    · exact .inr (.inr hz)
  done := fun i hi s hs => by
    by_cases hik : i < k
    · exact d.pre.subset (h.done i hik s hs)
    · obtain rfl : i = k := by omega
      rw [ht] at hs
      obtain rfl := Option.some.inj hs
      exact d.has
theorem DK.all {x : Int} {ys zs : List Int} (h : DK x ys (wl x) zs) : DF x ys zs where
  pre := h.pre
  nodup := h.nodup
  has := h.has
  of := h.of
  up := fun z hz => by
    rcases h.up z hz with h1 | rfl | h1
    · exact .inl h1
    · refine .inr fun e he => ?_
      obtain ⟨t, ht, rfl⟩ := mem_exps.1 he
      obtain ⟨i, hi⟩ := List.getElem?_of_mem ht
      exact h.done i (List.getElem?_eq_some_iff.1 hi).1 t hi
    · exact .inr h1
theorem DF.weight {x : Int} {zs : List Int} (h : DF x [] zs) : zs.length = weight x := by
  have hup : ∀ n z, z.natAbs < n → z ∈ zs → ∀ e, Part e z → (e : Int) ∈ zs := by
    intro n
    induction n with
    | zero => intro z hz; omega
    | succ n ih =>
      intro z hz hm e he
      rcases part_iff.1 he with ⟨f, hf, rfl | hp⟩
      · rcases h.up z hm with h1 | h1
        · simp at h1
        · exact h1 _ hf
      · have hf2 : (f : Int) ∈ zs := by
          rcases h.up z hm with h1 | h1
          · simp at h1
          · exact h1 _ hf
        have := exps_lt hf
        exact ih (f : Int) (by omega) hf2 e hp
  have h1 : ∀ y ∈ allP x, y ∈ zs := fun y hy => by
    rcases allP_mem.1 hy with rfl | ⟨e, he, rfl⟩
    · exact h.has
    · exact hup _ x (Nat.lt_succ_self _) h.has e he
  have h2 : ∀ y ∈ zs, y ∈ allP x := fun y hy => by
    rcases h.of y hy with h3 | h3
    · simp at h3
    · exact h3
  have a1 := nodup_sub_length (allP_nodup x) h1
  have a2 := nodup_sub_length h.nodup h2
  rw [allP_length] at a1 a2
  omega
end Go.Proofs.Ytgchfbfgjanaiaa

namespace Go.Proofs.Ytgchfbfgjanaiaa
open Go.RowKit Sr
theorem terms_get {w : World} {B g n c : Nat} {l : List (Bool × Int)} {ts : List (Bool × Option Addr)} (h : TermsOwn w B (.slice (some ⟨g, 0, none⟩) n c) l ts) {i : Nat} {s : Bool × Int} (hs : l[i]? = some s) : ∃ q, w.cell? ⟨g, i * 2, none⟩ = some (.bool s.1) ∧ w.cell? ⟨g, i * 2 + 1, none⟩ = some (.pointer q) ∧ NumIs w (.agg #[.pointer q]) s.2 := by
  have hi : i < ts.length := by rw [h.len]; exact (List.getElem?_eq_some_iff.1 hs).1
  have ht : ts[i]? = some ts[i] := List.getElem?_eq_getElem hi
  obtain ⟨h1, h2⟩ := h.num i _ s ht hs
  obtain ⟨d0, d1⟩ := trow_at ts i _ ht
  exact ⟨ts[i].2, by rw [← h1]; exact own_cell h.own rfl d0, own_cell h.own rfl d1, h2⟩
theorem own_typ5 {w : World} {B t s n q : Nat} {v : Value} {xs : List Value} (h : w.ownsRow B t s v n xs) (hq : v.ownBlock = some q) : ∃ cs, ∃ fz : Unit, w.heap[q]? = some (.cells cs t (0, 0)) := by
  rcases h.2 with ⟨rfl, _⟩ | ⟨g, cap, cur, rfl, _, hg, _⟩
  · simp [Value.ownBlock] at hq
  · have : g = q := Option.some.inj hq
    subst this
    exact ⟨_, (), hg⟩
theorem i64_in {z : Int} (h1 : -1000000000000 ≤ z) (h2 : z ≤ 1000000000000) : IntKind.i64.wrap z = z := by rw [IntKind.wrap_i64]; omega
theorem w64_in {z : Int} (h1 : -1000000000000 ≤ z) (h2 : z ≤ 1000000000000) : wrap64 z = z := by unfold wrap64; omega
end Go.Proofs.Ytgchfbfgjanaiaa

namespace Go.Proofs.Ytgchfbfgjanaiaa
open Go.RowKit Sr
structure BytesR (w : World) (v : Value) (l : List Int) : Prop where
  range : ∀ x ∈ l, 0 ≤ x ∧ x < 256
  at_ : ∃ a c, v = .slice a l.length c ∧ l.length ≤ c ∧ (l ≠ [] → ∃ b o, a = some ⟨b, o, none⟩ ∧ b < w.heap.size ∧ ∀ (i : Nat) (x : Int), l[i]? = some x → w.cell? ⟨b, o + i, none⟩ = some (.int .u8 x))
theorem BytesAt.raw {w : World} {v : Value} {l : List Int} (h : BytesAt w v l) : BytesR w v l := by
  obtain ⟨a, c, h1, h2, h3, h4⟩ := h.at_
  exact ⟨h.range, a, c, h1, h2, fun hl => by obtain ⟨b, o, q1, q2, q3, q4⟩ := h4 hl; exact ⟨b, o, q1, q2, q4⟩⟩
theorem BytesR.far {w w1 : World} {v : Value} {l : List Int} {M : Nat → Prop} (h : BytesR w v l) (e : Ext M w w1) (hM : l ≠ [] → ∀ k, v.ownBlock = some k → k < w.heap.size → ¬ M k) : BytesR w1 v l := by
  obtain ⟨a, c, rfl, h2, h4⟩ := h.at_
  refine ⟨h.range, a, c, rfl, h2, fun hl => ?_⟩
  obtain ⟨b, o, rfl, q2, q4⟩ := h4 hl
  have hb := e.block b q2 (hM hl b rfl q2)
  exact ⟨b, o, rfl, Nat.lt_of_lt_of_le q2 e.size, fun i x hx => (cell_same hb _).trans (q4 i x hx)⟩
theorem BytesR.below {w w1 : World} {v : Value} {l : List Int} (h : BytesR w v l) (e : Below w.heap.size w w1) : BytesR w1 v l :=
  h.far (M := noB) (Ext.of_below e) fun _ _ _ _ h => h
theorem BytesR.lt {w : World} {v : Value} {l : List Int} (h : BytesR w v l) (hl : l ≠ []) : ∀ q, v.ownBlock = some q → q < w.heap.size := by
  obtain ⟨a, c, rfl, h2, h4⟩ := h.at_
  obtain ⟨b, o, rfl, q2, q4⟩ := h4 hl
  intro q hq
  obtain rfl : b = q := Option.some.inj hq
  exact q2
theorem conv_raw {w : World} {v : Value} {l : List Int} (h : BytesR w v l) : ∃ a c, v = .slice a l.length c ∧ (convert 22 9 (.slice a l.length c)).run Try.prog w = .ok (.string (strOfNums l)) w := by
  obtain ⟨a, c, rfl, h2, h4⟩ := h.at_
  refine ⟨a, c, rfl, ?_⟩
  by_cases hn : l = []
  · subst hn
    rcases a with _ | a
    · exact run_convert_bytes_nil w 22 5 Try.underlying22 Try.underlying5 0 c 9 Try.underlying9
    · exact run_convert_bytes_back w 22 9 5 a c [] Try.underlying22 Try.underlying5 Try.underlying9 (fun j hj => by simp at hj)
  · obtain ⟨b, o, rfl, _, q⟩ := h4 hn
    refine run_convert_bytes_arg w 22 5 Try.underlying22 Try.underlying5 b o _ c l rfl (fun i hi => ?_) 9 Try.underlying9
    exact q i (l.getD i 0) (by rw [List.getD_eq_getElem?_getD, List.getElem?_eq_getElem hi]; rfl)
set_option maxRecDepth 100000 in
set_option maxHeartbeats 4000000 in
theorem Same_raw {w : World} {va vb : Value} {la lb : List Int} (ha : BytesR w va la) (hb : BytesR w vb lb) : Calls Try.prog 19 #[va, vb] w fun e w' => e = .returned (.bool (decide (la = lb))) ∧ w' = w := by
  obtain ⟨aa, ca, rfl, c1⟩ := conv_raw ha
  obtain ⟨ab, cb, rfl, c2⟩ := conv_raw hb
  have hs : (strOfNums la = strOfNums lb) ↔ la = lb := ⟨fun h => strOfNums_inj ha.range hb.range h, fun h => by rw [h]⟩
  have HS := Sealed.mk hs; clear hs
  obtain ⟨na, hna⟩ : ∃ na, na = la.length := ⟨_, rfl⟩
  obtain ⟨nb, hnb⟩ : ∃ nb, nb = lb.length := ⟨_, rfl⟩
  rw [← hna] at c1 ⊢
  rw [← hnb] at c2 ⊢
  clear hna hnb ha hb
  go_enter Try.func19, Try.ntmps19
  go_wp2_with fail
  go_ret
  refine ⟨show Ending.returned (.bool ((strOfNums la).toList == (strOfNums lb).toList)) = _ from ?_, rfl⟩
  rw [btoList, btoList]
  congr 2
  by_cases h : la = lb
  · subst h
    simp
  · rw [decide_eq_false h, beq_eq_false_iff_ne]
    intro e
    exact h (HS.out.1 (ByteArray.ext (Array.ext' e)))
end Go.Proofs.Ytgchfbfgjanaiaa

namespace Go.Proofs.Ytgchfbfgjanaiaa
open Go.RowKit Sr
theorem el_bytes : ElemT Try.prog 72 22 1 (.slice none 0 0) 24 := ⟨Try.underlying72, by kernel_rfl, rfl, by decide, by decide⟩
theorem ty_one {w : World} {q t t' : Nat} (h : TyBlk w q t) (h' : TyBlk w q t') : t = t' := by
  obtain ⟨_, _, e⟩ := h
  obtain ⟨_, _, e'⟩ := h'
  rw [e] at e'
  simp only [Option.some.injEq, Obj.cells.injEq] at e'
  exact e'.2.1
theorem own_ty1 {w : World} {B t s n q : Nat} {v : Value} {xs : List Value} (h : w.ownsRow B t s v n xs) (hq : v.ownBlock = some q) : TyBlk w q t := by
  obtain ⟨cs, -, e⟩ := own_typ5 h hq
  exact ⟨_, _, e⟩
theorem BytesAt.keep {w w1 : World} {v : Value} {l : List Int} {M : Nat → Prop} (h : BytesAt w v l) (e : Ext M w w1) (hM : ∀ k, M k → ¬ TyBlk w k 5) : BytesAt w1 v l := by
  obtain ⟨a, c, h1, h2, h3, h4⟩ := h.at_
  refine ⟨h.range, h.len, a, c, h1, h2, fun hn => ?_, fun hl => ?_⟩
  · obtain ⟨b, o, q1, q2⟩ := h3 hn
    exact ⟨b, o, q1, Nat.lt_of_lt_of_le q2 e.size⟩
  · obtain ⟨b, o, q1, q2, q3, q4⟩ := h4 hl
    have hb := e.block b q2 (fun hm => hM b hm q3)
    exact ⟨b, o, q1, Nat.lt_of_lt_of_le q2 e.size, q3.same hb, fun i x hx => (cell_same hb _).trans (q4 i x hx)⟩
structure DisOwn (w : World) (B : Nat) (v : Value) (ys : List Int) (us : List Value) : Prop where
  own : w.ownsRow B 22 1 v ys.length us
  len : us.length = ys.length
  at_ : ∀ (i : Nat) (u : Value) (y : Int), us[i]? = some u → ys[i]? = some y → BytesAt w u (bytesN y)
section
variable {w W W1 W2 : World} {B : Nat} {v v' u : Value} {ys zs : List Int} {us : List Value} {M : Nat → Prop} {x : Int}
theorem DisOwn.keep (h : DisOwn w B v ys us) (e : Ext M w W) (hM : ∀ q, v.ownBlock = some q → ¬ M q) (h8 : ∀ q, M q → ¬ TyBlk w q 5) : DisOwn W B v ys us :=
  ⟨own_ext h.own e hM, h.len, fun i u y hu hy => (h.at_ i u y hu hy).keep e h8⟩
theorem DisOwn.below (h : DisOwn w B v ys us) (e : Below w.heap.size w W) : DisOwn W B v ys us :=
  h.keep (M := noB) (Ext.of_below e) (fun _ _ h => h) fun _ h => h.elim
theorem DisOwn.push (h : DisOwn w B v ys us) (hu : BytesAt w u (bytesN x)) (hg : w.grownBy W v.ownBlock) (ho : W.ownsRow B 22 1 v' (ys.length + 1) (us ++ [u])) : DisOwn W B v' (ys ++ [x]) (us ++ [u]) := by
  have hx : Ext (fun q => v.ownBlock = some q) w W := ⟨hg.os, hg.tape, hg.output, hg.size, fun q hq hn => hg.block q hq fun e => hn e.symm⟩
  have h8 : ∀ q, v.ownBlock = some q → ¬ TyBlk w q 5 := fun q hq ht => absurd (ty_one ht (own_ty1 h.own hq)) (by decide)
  refine ⟨by rw [List.length_append]; exact ho, by simp [h.len], fun i u1 y h1 h2 => ?_⟩
  by_cases hi : i < ys.length
  · rw [List.getElem?_append_left (by rw [h.len]; exact hi)] at h1
    rw [List.getElem?_append_left hi] at h2
    exact (h.at_ i u1 y h1 h2).keep hx h8
  · rw [List.getElem?_append_right (by rw [h.len]; omega)] at h1
    rw [List.getElem?_append_right (by omega)] at h2
    have h0 : i - ys.length = 0 := by
      have := (List.getElem?_eq_some_iff.1 h2).1
      simp at this; omega
    rw [h.len, h0] at h1
    rw [h0] at h2
    simp at h1 h2
    subst h1
    subst h2
    exact hu.keep hx h8
end
theorem r_chain9 {w w1 w2 : World} (h : Below w.heap.size w w1) (k : Below w1.heap.size w1 w2) : Below w.heap.size w w2 := h.trans ⟨k.os, k.tape, k.output, k.size, fun q hq => k.block q (Nat.lt_of_lt_of_le hq h.size)⟩
def DisOut (B : Nat) (v : Value) (ys : List Int) (x : Int) (w : World) (e : Ending) (w' : World) : Prop :=
  ∃ a c zs us, e = .returned (.slice a zs.length c) ∧ DisOwn w' B (.slice a zs.length c) zs us ∧ Ext (fun q => v.ownBlock = some q) w w' ∧ NewOr w v (.slice a zs.length c) ∧ DF x ys zs
set_option maxRecDepth 100000 in
set_option maxHeartbeats 4000000 in
theorem distinct_step {x0 : Int} (hx0 : Allowed x0) {x : Int} (hxm : x ∈ allP x0)
    (ih : ∀ e ∈ exps x, ∀ {w : World} {B : Nat} {v u : Value} {ys : List Int} {us : List Value}, NumIs w u (e : Int) → DisOwn w B v ys us → ys.Nodup → (∀ y ∈ ys, y ∈ allP x0) → B ≤ w.heap.size → Calls Try.prog 45 #[u, v] w (DisOut B v ys (e : Int) w))
    {w : World} {B : Nat} {v u : Value} {ys : List Int} {us : List Value} (hu : NumIs w u x) (hd : DisOwn w B v ys us) (hn : ys.Nodup) (hys : ∀ y ∈ ys, y ∈ allP x0) (hB : B ≤ w.heap.size) :
    Calls Try.prog 45 #[u, v] w (DisOut B v ys x w) := by
  obtain ⟨p, rfl⟩ := hu.ptr
  obtain ⟨va, vc, rfl⟩ := own_slice hd.own
  obtain ⟨n, hnn⟩ : ∃ n, n = ys.length := ⟨_, rfl⟩
  have hxa := allP_allowed hx0 hxm
  have hlim : ∀ zs : List Int, zs.Nodup → (∀ y ∈ zs, y ∈ allP x0) → zs.length ≤ 2000 := fun zs h1 h2 => by
    have := nodup_sub_length h1 h2
    rw [allP_length] at this
    have := hx0.2.2.1
    omega
  have hn2 := hlim ys hn hys
  rw [← hnn] at hn2 ⊢
  obtain ⟨W1, hW1⟩ : ∃ W1, W1 = w.alloc (.cells #[.pointer p] 30) := ⟨_, rfl⟩
  obtain ⟨kx, hkx⟩ : ∃ k, k = w.heap.size := ⟨_, rfl⟩
  have hb1 : Below w.heap.size w W1 := by rw [hW1]; exact below_new _ _
  have hbk : W1.heap[kx]? = some (.cells #[.pointer p] 30 (0, 0)) := by rw [hW1, hkx]; exact blk_alloc _ _
  have c0 : W1.cell? ⟨kx, 0, none⟩ = some (.pointer p) := (cell_of_blk hbk 0).trans rfl
  have N1 := Sealed.mk (And.intro (hu.below hb1) (And.intro hbk hb1))
  have H := Sealed.mk (And.intro hd (And.intro hn (And.intro hys (And.intro hB (And.intro hnn (And.intro hxa (And.intro hlim hxm)))))))
  have IH := Sealed.mk @ih
  obtain ⟨bn, hbn⟩ : ∃ n, n = (bytesN x).length := ⟨_, rfl⟩
  have HBN := Sealed.mk hbn
  clear ih hu hd hn hys hB hnn hxa hlim hxm hb1 hbk hbn
  go_enter Try.func45, Try.ntmps45
  go_upto_region 1 with fail
  rw [← hW1, ← hkx]
  clear hW1 hkx
  go_upto_region 2 with (go_at_call 23; go_must ((with_reducible refine (Bytes_at N1.out.1).mono ?_); rintro e w2 ⟨a2, c2, rfl, hby, hb2⟩; rw [← HBN.out] at hby ⊢; have H2 := Sealed.mk (And.intro hby hb2); clear hby hb2))
  have hD2 := H.out.1.below (r_chain9 N1.out.2.2 H2.out.2)
  have HD2 := Sealed.mk hD2; clear hD2 c0
  go_wp2_with fail
  go_loopg [6] n (fun jj iv W => ∃ i : Nat, jj = n - i ∧ i ≤ n ∧ iv = .int .i64 (i : Int) ∧ W = w2 ∧ Sealed (∀ j, j < i → ∀ y, ys[j]? = some y → y ≠ x))
  case atStart => exact ⟨0, rfl, Nat.zero_le _, rfl, rfl, ⟨fun j hj => by omega⟩⟩
  case round =>
    obtain ⟨i, rfl, hi, rfl, rfl, HI⟩ := hrel
    by_cases hin : i < n
    · obtain ⟨y, hy⟩ : ∃ y, ys[i]? = some y := ⟨_, List.getElem?_eq_getElem (by have := H.out.2.2.2.2.1; omega)⟩
      obtain ⟨uy, huy⟩ : ∃ y, us[i]? = some y := ⟨_, List.getElem?_eq_getElem (by have := H.out.2.2.2.2.1; have := H.out.1.len; omega)⟩
      have hby := HD2.out.at_ i uy y huy hy
      have hown := HD2.out.own
      rw [← H.out.2.2.2.2.1] at hown
      obtain ⟨g, cap, eg⟩ := own_form hown (by omega)
      obtain ⟨rfl, -, rfl⟩ := Value.slice.inj eg
      have cu : wr.cell? ⟨g, i, none⟩ = some uy := own_cell hown rfl huy
      have hya : Allowed y := allP_allowed hx0 (H.out.2.2.1 y (List.mem_of_getElem? hy))
      obtain ⟨ua, un, uc, rfl⟩ : ∃ a n c, uy = .slice a n c := by obtain ⟨a, c, h1, -⟩ := hby.at_; exact ⟨_, _, _, h1⟩
      have hinI : (i : Int) < (n : Int) := by omega
      have HY := Sealed.mk (And.intro hby (And.intro hy (And.intro hya hown)))
      clear hby hy hya hown huy eg
      by_cases hyx : y = x
      · subst hyx
        have dS : decide (bytesN y = bytesN y) = true := by simp
        go_wp2_with (go_at_call 19; go_must (have hq := Same_any HY.out.1 H2.out.1; rw [dS] at hq; (with_reducible refine hq.mono ?_); clear hq; rintro e w3 ⟨rfl, rfl⟩))
        go_ret
        have hm := List.mem_of_getElem? HY.out.2.1
        exact ⟨some ⟨g, 0, none⟩, vc, ys, us, by rw [← H.out.2.2.2.2.1]; rfl, HD2.out, Ext.of_below (r_chain9 N1.out.2.2 H2.out.2), .inl rfl, DF.found H.out.2.1 hm⟩
      · have dS : decide (bytesN y = bytesN x) = false := by rw [bytesN_iff HY.out.2.2.1 H.out.2.2.2.2.2.1]; exact decide_eq_false hyx
        go_wp2_with (go_at_call 19; go_must (have hq := Same_any HY.out.1 H2.out.1; rw [dS] at hq; (with_reducible refine hq.mono ?_); clear hq; rintro e w3 ⟨rfl, rfl⟩))
        go_roundg (n - (i + 1))
        case measure => omega
        case rel => exact ⟨i + 1, rfl, by omega, by push_cast; rfl, rfl, ⟨fun j hj z hz => by
          by_cases h : j < i
          · exact HI.out j h z hz
          · obtain rfl : j = i := by omega
            rw [HY.out.2.1] at hz
            obtain rfl := Option.some.inj hz
            exact hyx⟩⟩
    · obtain rfl : i = n := by omega
      have hno : x ∉ ys := fun hm => by
        obtain ⟨j, hj⟩ := List.getElem?_of_mem hm
        exact HI.out j (by have := (List.getElem?_eq_some_iff.1 hj).1; have := H.out.2.2.2.2.1; omega) x hj rfl
      have hown := HD2.out.own
      rw [← H.out.2.2.2.2.1] at hown
      have hsz := H.out.2.2.2.1
      have hsz2 : B ≤ wr.heap.size := Nat.le_trans hsz (Nat.le_trans N1.out.2.2.size H2.out.2.size)
      have HO := Sealed.mk (And.intro hown (And.intro hno hsz2)); clear hown hno hsz
      obtain ⟨tn, htn⟩ : ∃ n, n = wl x := ⟨_, rfl⟩
      have HTN := Sealed.mk htn; clear htn
      go_wp2_with (at_builtin; go_must (refine ap_litp (m := 1) el_bytes (.tmp 24) (.tmp 26) rfl rfl rfl HO.out.1 rfl (by simp) rfl (by decide) ?g1 ?g2 ?g3 ?g4))
      case g1 => simp [Value.oneCell']
      case g2 => omega
      case g3 => exact hsz2
      case g4 =>
        intro g5 c5 w5 ho5 hg5 hn5
        have hx5 : Ext (fun q => (Value.slice va i vc).ownBlock = some q) wr w5 := ⟨hg5.os, hg5.tape, hg5.output, hg5.size, fun q hq hn => hg5.block q hq fun e => hn e.symm⟩
        have hb2 := r_chain9 N1.out.2.2 H2.out.2
        have hbk2 := (H2.out.2.block _ (lt_of_blk N1.out.2.1)).trans N1.out.2.1
        have hbk5 : w5.heap[kx]? = some (.cells #[.pointer p] 30 (0, 0)) := hx5.get hbk2 fun hm => absurd (ty_one ⟨_, _, hbk2⟩ (own_ty1 HO.out.1 hm)) (by decide)
        have hnum5 := (N1.out.1.below H2.out.2).apart (own_apart HO.out.1 (by decide)) hx5
        have hd5 : DisOwn w5 B (.slice (some ⟨g5, 0, none⟩) (ys ++ [x]).length c5) (ys ++ [x]) (us ++ [.slice a2 bn c2]) := by
          have hby := H2.out.1
          rw [List.length_append, ← H.out.2.2.2.2.1]
          have h1 := HD2.out
          exact h1.push hby (by rw [← H.out.2.2.2.2.1]; exact hg5) (by rw [← H.out.2.2.2.2.1]; exact ho5)
        have hext5 : Ext (fun q => (Value.slice va i vc).ownBlock = some q) w w5 := (Ext.of_below hb2).same hx5
        have c0 : w5.cell? ⟨kx, 0, none⟩ = some (.pointer p) := (cell_of_blk hbk5 0).trans rfl
        have H5 := Sealed.mk (And.intro hnum5 (And.intro hd5 (And.intro hext5 (hn5.mono (Nat.le_trans N1.out.2.2.size H2.out.2.size)))))
        clear ho5 hg5 hn5 hx5 hb2 hbk2 hbk5 hnum5 hd5 hext5
        go_wp2_with (go_at_call 41; go_must ((with_reducible refine (Terms_any H5.out.1).mono ?_); rintro e wT ⟨aT, cT, tsT, rfl, hto, hb⟩; rw [← HTN.out] at hto ⊢; have HT := Sealed.mk (And.intro hto hb); clear hto hb))
        clear c0
        go_loopg [1, 8] tn (fun jj sv kv W => ∃ (k : Nat) (zs : List Int) (us1 : List Value) (sa : Option Addr) (sc : Nat), jj = tn - k ∧ k ≤ tn ∧ kv = .int .i64 (k : Int) ∧ sv = .slice sa zs.length sc ∧ Sealed (DisOwn W B (.slice sa zs.length sc) zs us1 ∧ DK x ys k zs ∧ Ext (fun q => (Value.slice va i vc).ownBlock = some q) w W ∧ NewOr w (.slice va i vc) (.slice sa zs.length sc) ∧ TermsOwn W w5.heap.size (.slice aT tn cT) (termsZ x) tsT))
        case atStart =>
          refine ⟨0, ys ++ [x], us ++ [.slice a2 bn c2], some ⟨g5, 0, none⟩, c5, rfl, Nat.zero_le _, rfl, by rw [List.length_append, ← H.out.2.2.2.2.1]; rfl, ⟨H5.out.2.1.below HT.out.2, DK.start H.out.2.1 HO.out.2.1, H5.out.2.2.1.trans (N := noB) (Ext.of_below HT.out.2) (fun _ h => h.elim), ?_, HT.out.1⟩⟩
          have := H5.out.2.2.2
          rw [List.length_append, ← H.out.2.2.2.2.1]
          exact this
        case round =>
          obtain ⟨k, zs, us1, sa, sc, rfl, hk, rfl, rfl, HR⟩ := hrel
          by_cases hkt : k < tn
          · obtain ⟨⟨m, e⟩, hte⟩ : ∃ t, (form x)[k]? = some t := ⟨_, List.getElem?_eq_getElem (by have := HTN.out; unfold wl at this; omega)⟩
            have hex : e ∈ exps x := mem_exps.2 ⟨_, List.mem_of_getElem? hte, rfl⟩
            have htz : (termsZ x)[k]? = some (m, (e : Int)) := by unfold termsZ; rw [List.getElem?_map, hte]; rfl
            have hto := HR.out.2.2.2.2
            obtain ⟨gg, cc, e1⟩ := own_form hto.own (by rw [termsZ_length, ← HTN.out]; omega)
            obtain ⟨rfl, -, rfl⟩ := Value.slice.inj e1
            obtain ⟨q, d0, d1, hq⟩ := terms_get hto htz
            simp only at d0 d1
            have hktI : (k : Int) < (tn : Int) := by omega
            have htn3 : tn ≤ 300 := by have := HTN.out; have := H.out.2.2.2.2.2.1.1; unfold wl at *; omega
            have hkw : wrap64 ((k : Int) + 1) = (k : Int) + 1 := w64_in (by omega) (by omega)
            have hzs : ∀ y ∈ zs, y ∈ allP x0 := fun y hy => by
              rcases HR.out.2.1.of y hy with h1 | h1
              · exact H.out.2.2.1 y h1
              · exact allP_sub H.out.2.2.2.2.2.2.2 h1
            have hdc := IH.out e hex hq HR.out.1 HR.out.2.1.nodup hzs (Nat.le_trans H.out.2.2.2.1 HR.out.2.2.1.size)
            have HD := Sealed.mk (And.intro hdc hte)
            clear hdc hte hex htz hto e1 hq hzs d0
            go_wp2_with (go_at_call 45; go_must ((with_reducible refine HD.out.1.mono ?_); rintro e1 w7 ⟨a7, c7, zs7, us7, rfl, hd7, hx7, hn7, hf7⟩; have H7 := Sealed.mk (And.intro hd7 (And.intro hx7 (And.intro hn7 hf7))); clear hd7 hx7 hn7 hf7))
            go_roundg (tn - (k + 1))
            case measure => clear hkw; omega
            case rel =>
              refine ⟨k + 1, zs7, us7, a7, c7, rfl, (by clear hkw; omega), by push_cast; rfl, rfl, ⟨H7.out.1, HR.out.2.1.next HD.out.2 H7.out.2.2.2, HR.out.2.2.1.trans H7.out.2.1 fun q hq => ?_, NewOr.step HR.out.2.2.2.1 H7.out.2.2.1 HR.out.2.2.1.size, HR.out.2.2.2.2.keep H7.out.2.1 (own_apart HR.out.1.own (by decide)) fun q hq hm => absurd (ty_one (own_ty1 HR.out.2.2.2.2.own hq) (own_ty1 HR.out.1.own hm)) (by decide)⟩⟩
              rcases HR.out.2.2.2.1 with h1 | ⟨g, h1, h2⟩
              · exact .inl (by rw [← h1]; exact hq)
              · rw [h1] at hq
                obtain rfl := Option.some.inj hq
                exact .inr h2
          · obtain rfl : k = tn := by omega
            go_wp2_with fail
            go_ret
            have hdk := HR.out.2.1
            rw [HTN.out] at hdk
            exact ⟨sa, sc, zs, us1, rfl, HR.out.1, HR.out.2.2.1, HR.out.2.2.2.1, hdk.all⟩
theorem distinct_any {x0 : Int} (hx0 : Allowed x0) : ∀ (n : Nat) {x : Int}, x.natAbs < n → x ∈ allP x0 → ∀ {w : World} {B : Nat} {v u : Value} {ys : List Int} {us : List Value}, NumIs w u x → DisOwn w B v ys us → ys.Nodup → (∀ y ∈ ys, y ∈ allP x0) → B ≤ w.heap.size → Calls Try.prog 45 #[u, v] w (DisOut B v ys x w)
  | 0, x, h, _, _, _, _, _, _, _, _, _, _, _, _ => absurd h (by omega)
  | n + 1, x, h, hm, w, B, v, u, ys, us, hu, hd, hn, hys, hB =>
    distinct_step hx0 hm (fun e he {w B v u ys us} hu hd hn hys hB => distinct_any hx0 n (by have := exps_lt he; simp; omega) (allP_exp hm he) hu hd hn hys hB) hu hd hn hys hB
theorem distinct_len {w : World} {u : Value} {x : Int} (hu : NumIs w u x) : Calls Try.prog 45 #[u, .slice none 0 0] w fun e w' => ∃ a c, e = .returned (.slice a (weight x) c) ∧ Below w.heap.size w w' :=
  (distinct_any hu.1 _ (Nat.lt_succ_self _) (allP_mem.2 (.inl rfl)) (B := w.heap.size) (ys := []) (us := []) hu ⟨World.ownsRow_nil _ _ _ _, rfl, fun i u y h => by simp at h⟩ List.nodup_nil (fun y hy => by simp at hy) (Nat.le_refl _)).mono fun e w' h => by
    obtain ⟨a, c, zs, us, rfl, -, hx, -, hf⟩ := h
    rw [hf.weight]
    exact ⟨a, c, rfl, Ext.below (hx.imp (M := noB) fun q hq => by simp [Value.ownBlock] at hq)⟩
end Go.Proofs.Ytgchfbfgjanaiaa

namespace Go.Proofs.Ytgchfbfgjanaiaa
open Go.RowKit Sr
theorem under_half : ∀ (l : List T) (n : Nat), Under n l → 2 * l.length ≤ n + 1
  | [], _, _ => by simp
  | [t], n, h => by have := h.1; simp only [List.length_singleton]; omega
  | t :: s :: l, n, h => by
    have ih := under_half (s :: l) (t.2 - 1) h.2.1
    have h1 := h.1
    have h2 := h.2.2 (by simp)
    rw [List.length_cons]
    omega
theorem part_low {x : Int} {M : Nat} (h : ∀ e ∈ exps x, e ≤ M) {e : Nat} (he : Part e x) : e ≤ M := by
  rcases part_iff.1 he with ⟨f, hf, rfl | hp⟩
  · exact h _ hf
  · have h1 := h _ hf
    have h2 := hp.lt
    simp at h2
    omega
theorem height_1023 {e : Nat} (he : e ≤ 1023) : height (e : Int) ≤ 11 := by
  have h1 : ∀ f ∈ exps (e : Int), f ≤ 10 := fun f hf => by
    have h1 := exps_pow hf
    apply Classical.byContradiction
    intro hge
    have h2 := pow_mono (show 12 ≤ f + 1 by omega)
    have h3 : (2 : Int) ^ 12 = 4096 := by decide
    simp at h1
    omega
  have h2 := height_plist _ (Nat.lt_succ_self (e : Int).natAbs)
  have h3 := nodup_sub_nat (a := plist (e : Int)) (b := List.range 11) (plist_nodup _) fun f hf => by
    have := part_low h1 (mem_plist.1 hf)
    rw [List.mem_range]; omega
  simp at h3
  omega
theorem foldr_max_le (f : Nat → Nat) (n : Nat) : ∀ l : List Nat, (∀ e ∈ l, f e ≤ n) → l.foldr (fun e m => max (f e) m) 0 ≤ n
  | [], _ => by simp
  | a :: l, h => by
    have h1 := foldr_max_le f n l fun e he => h e (by simp [he])
    have h2 := h a (by simp)
    simp only [List.foldr_cons]
    omega
theorem low_allowed {x : Int} {M : Nat} (hM : M ≤ 1023) (h : ∀ e ∈ exps x, e ≤ M) (hw : wl x ≤ 300) : Allowed x ∧ weight x ≤ 1025 ∧ height x ≤ 12 := by
  have hwt : weight x ≤ 1025 := by
    have := weight_sub (x := x) (L := List.range 1024) fun e he => by
      have := part_low h he
      rw [List.mem_range]; omega
    simpa using this
  have hht : height x ≤ 12 := by
    rw [height_eq]
    refine foldr_max_le (fun e : Nat => height (e : Int) + 1) 12 _ fun e he => ?_
    have := height_1023 (e := e) (by have := h e he; omega)
    show height (e : Int) + 1 ≤ 12
    omega
  refine ⟨⟨hw, fun e he => ?_, by omega, by omega⟩, hwt, hht⟩
  have h1 := part_low h he
  have h2 := form_length_le (x := (e : Int)) (n := 300) fun f hf => by
    have h1 := exps_pow hf
    apply Classical.byContradiction
    intro hge
    have h2 := pow_mono (show 12 ≤ f + 1 by omega)
    have h3 : (2 : Int) ^ 12 = 4096 := by decide
    simp at h1
    omega
  exact h2
theorem shiftR_nat (x : Int) (n : Nat) : shiftR x n = gv (2 ^ n * x) := by unfold shiftR; rw [if_pos (whole_nat x n), shl_nat]
end Go.Proofs.Ytgchfbfgjanaiaa

namespace Go.Proofs.Ytgchfbfgjanaiaa
open Go.RowKit Sr
theorem val_splitG (G e : Nat) : ∀ l : List T, (∀ t ∈ l, e < t.2 ∨ t.2 + G ≤ e) → ∃ m r : Int, val l = 2 ^ (e + 1) * m + r ∧ (r.natAbs : Int) * 2 ^ G ≤ l.length * 2 ^ e
  | [], _ => ⟨0, 0, by simp [val], by simp⟩
  | t :: l, h => by
    obtain ⟨m, r, h1, h2⟩ := val_splitG G e l fun s hs => h s (by simp [hs])
    have hp := two_pow_pos e
    have hl : ((t :: l).length : Int) * 2 ^ e = l.length * 2 ^ e + 2 ^ e := by
      rw [List.length_cons, Int.natCast_add, Int.add_mul]; simp
    rw [hl]
    rcases h t (by simp) with ht | ht
    · obtain ⟨k, hk⟩ : ∃ k, t.2 = (e + 1) + k := ⟨t.2 - (e + 1), by omega⟩
      have : tv t = 2 ^ (e + 1) * (Sr.one t.1 * 2 ^ k) := by
        unfold tv Sr.one
        rw [hk, Int.pow_add]
        split
        · rw [Int.neg_one_mul, Int.mul_neg]
        · rw [Int.one_mul]
      refine ⟨Sr.one t.1 * 2 ^ k + m, r, ?_, by omega⟩
      simp only [val]
      rw [this, h1, Int.mul_add]; omega
    · refine ⟨m, tv t + r, ?_, ?_⟩
      · simp only [val]; rw [h1]; omega
      · have h3 := pow_mono ht
        rw [Int.pow_add] at h3
        have h5 := two_pow_pos t.2
        have h6 : ((tv t + r).natAbs : Int) ≤ 2 ^ t.2 + r.natAbs := by
          unfold tv
          split <;> omega
        have h7 : ((tv t + r).natAbs : Int) * 2 ^ G ≤ (2 ^ t.2 + r.natAbs) * 2 ^ G := Int.mul_le_mul_of_nonneg_right h6 (Int.le_of_lt (two_pow_pos G))
        rw [Int.add_mul] at h7
        omega
theorem exps_valG {G : Nat} {l : List T} (hl : 8 * (l.length : Int) ≤ 2 ^ G) {e : Nat} (he : e ∈ exps (val l)) : ∃ t ∈ l, ∃ k, k < G ∧ e = t.2 + k := by
  apply Classical.byContradiction
  intro hno
  obtain ⟨m, r, h1, h2⟩ := val_splitG G e l fun t ht => by
    apply Classical.byContradiction
    intro h
    exact hno ⟨t, ht, e - t.2, by omega, by omega⟩
  rw [h1] at he
  refine exps_gap ?_ he
  have hp := two_pow_pos e
  have hG := two_pow_pos G
  have h3 : 8 * (l.length : Int) * 2 ^ e ≤ 2 ^ G * 2 ^ e := Int.mul_le_mul_of_nonneg_right hl (Int.le_of_lt hp)
  have h4 : 8 * (r.natAbs : Int) * 2 ^ G ≤ 2 ^ e * 2 ^ G := by
    rw [Int.mul_assoc] at h3 ⊢
    rw [Int.mul_comm (2 ^ e) (2 ^ G)]
    omega
  exact Int.le_of_mul_le_mul_right h4 hG
theorem form_add_exps {G : Nat} {x y : Int} (h : 8 * ((wl x + wl y : Nat) : Int) ≤ 2 ^ G) {e : Nat} (he : e ∈ exps (x + y)) : ∃ f k, (f ∈ exps x ∨ f ∈ exps y) ∧ k < G ∧ e = f + k := by
  have hv : val (form x ++ form y) = x + y := by rw [val_append, val_form, val_form]
  rw [← hv] at he
  obtain ⟨t, ht, k, hk, rfl⟩ := exps_valG (G := G) (by rw [List.length_append]; exact h) he
  refine ⟨t.2, k, ?_, hk, rfl⟩
  rcases List.mem_append.1 ht with ht | ht
  · exact .inl (mem_exps.2 ⟨t, ht, rfl⟩)
  · exact .inr (mem_exps.2 ⟨t, ht, rfl⟩)
structure NearH (P : List Nat) (K S : Nat) : Prop where
  up : ∀ p ∈ P, ∀ f ∈ exps (p : Int), ∃ q ∈ P, ∃ k, k ≤ K ∧ f = q + k
  small : ∀ p ∈ P, 2 * (wl (p : Int) + K) + 1 ≤ S ∧ wl (p : Int) + K ≤ 300
  room : 20 ≤ S ∧ S ≤ 1000
def nearL (P : List Nat) (K S : Nat) : List Nat := P.flatMap (fun p => (List.range (K + 1)).map fun k => p + k) ++ List.range (S + 1)
variable {P : List Nat} {K S : Nat}
theorem nearL_mem {q : Nat} : q ∈ nearL P K S ↔ (∃ p ∈ P, ∃ k, k ≤ K ∧ q = p + k) ∨ q ≤ S := by
  unfold nearL
  simp only [List.mem_append, List.mem_flatMap, List.mem_map, List.mem_range]
  constructor
  · rintro (⟨p, hp, k, hk, rfl⟩ | h)
    · exact .inl ⟨p, hp, k, by omega, rfl⟩
    · exact .inr (by omega)
  · rintro (⟨p, hp, k, hk, rfl⟩ | h)
    · exact .inl ⟨p, hp, k, by omega, rfl⟩
    · exact .inr (by omega)
theorem flat_len {α : Type} (f : α → List Nat) (n : Nat) : ∀ l : List α, (∀ a ∈ l, (f a).length ≤ n) → (l.flatMap f).length ≤ l.length * n
  | [], _ => by simp
  | a :: l, h => by
    have h1 := flat_len f n l fun b hb => h b (by simp [hb])
    have h2 := h a (by simp)
    rw [List.flatMap_cons, List.length_append, List.length_cons, Nat.add_mul]
    omega
theorem nearL_length : (nearL P K S).length ≤ P.length * (K + 1) + (S + 1) := by
  have := flat_len (fun p : Nat => (List.range (K + 1)).map fun k => p + k) (K + 1) P (fun a _ => by simp)
  unfold nearL
  simp only [List.length_append, List.length_range]
  omega
theorem exps_thousand {n e : Nat} (hn : n ≤ 1000) (he : e ∈ exps (n : Int)) : e ≤ 10 := by
  have h1 := exps_pow he
  apply Classical.byContradiction
  intro hge
  have h2 := pow_mono (show 12 ≤ e + 1 by omega)
  have h3 : (2 : Int) ^ 12 = 4096 := by decide
  simp at h1
  omega
theorem near_up (h : NearH P K S) {q : Nat} (hq : q ∈ nearL P K S) {f : Nat} (hf : f ∈ exps (q : Int)) : f ∈ nearL P K S := by
  have hr := h.room
  rcases nearL_mem.1 hq with ⟨p, hp, k, hk, rfl⟩ | hq
  · rw [Int.natCast_add] at hf
    rcases exps_addn (p : Int) k f hf with h1 | h1
    · exact nearL_mem.2 (.inl (h.up p hp f h1))
    · have := (h.small p hp).1
      exact nearL_mem.2 (.inr (by omega))
  · have := exps_thousand (n := q) (by omega) hf
    exact nearL_mem.2 (.inr (by omega))
theorem near_part (h : NearH P K S) {d : Int} (hd : ∀ f ∈ exps d, f ∈ nearL P K S) {e : Nat} (he : Part e d) : e ∈ nearL P K S := by
  revert hd
  induction he with
  | here h1 => exact fun hd => hd _ h1
  | deep h1 _ ih => exact fun hd => ih fun f hf => near_up h (hd _ h1) hf
theorem near_wl (h : NearH P K S) {q : Nat} (hq : q ∈ nearL P K S) : wl (q : Int) ≤ 300 := by
  have hr := h.room
  rcases nearL_mem.1 hq with ⟨p, hp, k, hk, rfl⟩ | hq
  · have h1 := wl_addn (p : Int) k
    have := (h.small p hp).2
    rw [Int.natCast_add]
    omega
  · have := form_length_le (x := (q : Int)) (n := 11) fun e he => by have := exps_thousand (n := q) (by omega) he; omega
    unfold wl
    omega
theorem near_allowed (h : NearH P K S) {d : Int} (hd : ∀ f ∈ exps d, f ∈ nearL P K S) (hw : wl d ≤ 300) (hn : P.length * (K + 1) + S + 2 ≤ 2000) (hh : height d ≤ 100) : Allowed d := by
  refine ⟨hw, fun e he => near_wl h (near_part h hd he), ?_, hh⟩
  have := weight_sub (x := d) (L := nearL P K S) fun e he => near_part h hd he
  have := nearL_length (P := P) (K := K) (S := S)
  omega
theorem foldr_max_ge (f : Nat → Nat) : ∀ {l : List Nat} {e : Nat}, e ∈ l → f e ≤ l.foldr (fun e m => max (f e) m) 0
  | a :: l, e, h => by
    simp only [List.foldr_cons]
    rcases List.mem_cons.1 h with rfl | h
    · omega
    · have := foldr_max_ge f h; omega
theorem height_exp {x : Int} {e : Nat} (h : e ∈ exps x) : height (e : Int) + 1 ≤ height x := by
  rw [height_eq x]
  exact foldr_max_ge (fun e : Nat => height (e : Int) + 1) h
theorem height_le {x : Int} {n : Nat} (h : ∀ e ∈ exps x, height (e : Int) + 1 ≤ n) : height x ≤ n := by
  rw [height_eq]
  exact foldr_max_le (fun e : Nat => height (e : Int) + 1) n _ h
theorem height_addn {p k : Nat} (h : 2 * (wl (p : Int) + k) + 1 ≤ 1000) : height ((p + k : Nat) : Int) ≤ max (height (p : Int)) 12 := by
  refine height_le fun e he => ?_
  rw [Int.natCast_add] at he
  rcases exps_addn (p : Int) k e he with h1 | h1
  · have := height_exp h1; omega
  · have := height_1023 (e := e) (by omega)
    omega
end Go.Proofs.Ytgchfbfgjanaiaa

namespace Go.Proofs.Ytgchfbfgjanaiaa
open Go.RowKit Sr
theorem shl_zero (y : Int) : shl 0 y = 0 := by unfold shl shlL; rw [form_zero]; rfl
theorem whole_shl {x y z : Int} (h : Whole x y) : Whole (shl x y) z ↔ Whole x (y + z) := by
  constructor
  · intro k t ht
    have h1 := h t ht
    have h2 := k (t.1, ((t.2 : Int) + y).toNat) (by rw [form_shl h]; exact List.mem_map.2 ⟨t, ht, rfl⟩)
    simp only at h2
    omega
  · intro k t ht
    rw [form_shl h] at ht
    obtain ⟨s, hs, rfl⟩ := List.mem_map.1 ht
    have h1 := h s hs
    have h2 := k s hs
    simp only
    omega
theorem shl_shl {x y z : Int} (h : Whole x y) (k : Whole x (y + z)) : shl (shl x y) z = shl x (y + z) := by
  unfold shl
  congr 1
  show ((form (shl x y)).map _) = _
  rw [form_shl h]
  unfold shlL
  rw [List.map_map]
  apply List.map_congr_left
  intro t ht
  have h1 := h t ht
  have h2 := k t ht
  simp only [Function.comp_def]
  rw [show ((((t.2 : Int) + y).toNat : Nat) : Int) + z = (t.2 : Int) + (y + z) by omega]
theorem shl_none (x : Int) : shl x 0 = x := by have := shl_nat x 0; simpa using this
theorem shl_again {x y : Int} (h : Whole x y) : Whole (shl x y) (-y) ∧ shl (shl x y) (-y) = x := by
  have hk : Whole x (y + -y) := fun t ht => by omega
  refine ⟨(whole_shl h).2 hk, ?_⟩
  rw [shl_shl h hk, show y + -y = (0 : Int) by omega, shl_none]
theorem shl_sum {x z y : Int} (hx : Whole x y) (hz : Whole z y) : Whole (x + z) y ∧ shl (x + z) y = shl x y + shl z y := by
  rcases Int.lt_or_le y 0 with h | h
  · obtain ⟨n, rfl⟩ : ∃ n : Nat, y = -(n : Int) := ⟨y.natAbs, by omega⟩
    have e1 := shl_back hx
    have e2 := shl_back hz
    have e3 : x + z = 2 ^ n * (shl x (-(n : Int)) + shl z (-(n : Int))) := by rw [Int.mul_add, e1, e2]
    refine ⟨whole_iff.2 ⟨_, e3⟩, ?_⟩
    rw [e3, shl_div]
  · obtain ⟨n, rfl⟩ : ∃ n : Nat, y = (n : Int) := ⟨y.natAbs, by omega⟩
    refine ⟨whole_nat _ _, ?_⟩
    rw [shl_nat, shl_nat, shl_nat, Int.mul_add]
theorem wl_pow2 (n : Nat) : wl (2 ^ n) = 1 := by unfold wl; rw [form_pow2]; rfl
theorem shl_one (n : Nat) : shl 1 n = 2 ^ n := by rw [shl_nat, Int.mul_one]
theorem mulR_pow {x : Int} (hx : Allowed x) (n : Nat) : mulR x (2 ^ n) = shiftR x n := by
  have := hx.1
  unfold mulR
  rw [wl_pow2, Nat.mul_one, if_pos (by unfold wl; omega), shiftR_nat, Int.mul_comm]
theorem shiftR_ways (x y : Int) : ∃ u e, shiftR x y = (u, e) ∧ ((e = 0 ∧ Whole x y ∧ Allowed (shl x y) ∧ u = shl x y) ∨ (e = 5 ∧ Whole x y ∧ u = 0) ∨ (e = 4 ∧ ¬ Whole x y ∧ u = 0)) := by
  unfold shiftR
  by_cases h : Whole x y
  · rw [if_pos h]
    by_cases k : Allowed (shl x y)
    · exact ⟨_, 0, gv_ok k, .inl ⟨rfl, h, k, rfl⟩⟩
    · exact ⟨0, 5, gv_no k, .inr (.inl ⟨rfl, h, rfl⟩)⟩
  · rw [if_neg h]; exact ⟨0, 4, rfl, .inr (.inr ⟨rfl, h, rfl⟩)⟩
theorem shiftR_ok {x y : Int} (h : Whole x y) (k : Allowed (shl x y)) : shiftR x y = (shl x y, 0) := by unfold shiftR; rw [if_pos h, gv_ok k]
theorem whole_last {x y : Int} {t : T} (h : (form x)[wl x - 1]? = some t) : Whole x y ↔ 0 ≤ (t.2 : Int) + y := by
  constructor
  · intro k; exact k t (List.mem_of_getElem? h)
  · intro k s hs
    obtain ⟨n, hu⟩ := form_form x
    have hp : ∀ (l : List T) (n : Nat), Under n l → ∀ (i j : Nat) (a b : T), i ≤ j → l[i]? = some a → l[j]? = some b → b.2 ≤ a.2 := by
      intro l
      induction l with
      | nil => intro n _ i j a b _ ha; simp at ha
      | cons c l ih =>
        intro n hu i j a b hij ha hb
        cases i with
        | zero =>
          simp at ha; subst ha
          have := under_mem (c :: l) (c.2 + 1) ⟨by omega, hu.2⟩ b (List.mem_of_getElem? hb)
          omega
        | succ i =>
          cases j with
          | zero => omega
          | succ j => exact ih _ hu.2.1 i j a b (by omega) (by simpa using ha) (by simpa using hb)
    obtain ⟨i, hi⟩ := List.getElem?_of_mem hs
    have hil := (List.getElem?_eq_some_iff.1 hi).1
    have := hp _ _ hu i (wl x - 1) s t (by unfold wl; omega) hi h
    omega
theorem whole_zero (y : Int) : Whole 0 y := fun t ht => by rw [form_zero] at ht; simp at ht
end Go.Proofs.Ytgchfbfgjanaiaa

namespace Go.Proofs.Ytgchfbfgjanaiaa
open Go.RowKit Sr
theorem natAbs_mod {x : Int} (h : Mod x) : Mod (x.natAbs : Int) := by
  rcases Int.natAbs_eq x with e | e
  · rw [← e]; exact h
  · have e2 : ((x.natAbs : Nat) : Int) = -x := by omega
    rw [e2]
    refine ⟨allowed_neg h.1, by rw [wl_neg]; exact h.2.1, ?_⟩
    have := h.2.2
    unfold weight at this ⊢
    rw [plist_neg]; exact this
theorem pow_ways {n : Nat} (h : Mod (n : Int)) : (gv (2 ^ n) = (2 ^ n, 0) ∧ Allowed (2 ^ n) ∧ height (2 ^ n) = height (n : Int) + 1 ∧ height (n : Int) ≤ 99) ∨ (gv (2 ^ n) = (0, 5) ∧ height (n : Int) = 100) := by
  have hh := h.1.2.2.2
  by_cases k : height (n : Int) + 1 ≤ 100
  · obtain ⟨h1, h2, h3⟩ := allowed_pow2 h.1 (by have := h.2.2; omega) k
    exact .inl ⟨gv_ok h1, h1, h3, by omega⟩
  · refine .inr ⟨gv_no fun ha => ?_, by omega⟩
    have he : exps (2 ^ n) = [n] := by simp [exps, form_pow2]
    have : height (2 ^ n) = height (n : Int) + 1 := by rw [height_eq, he]; simp
    have := ha.2.2.2
    omega
theorem sg_pow_self (n : Nat) : sg (2 ^ n - (n : Int)) = 1 := by
  have := lt_two_pow n
  unfold sg
  rw [if_neg (by omega), if_neg (by omega)]
theorem pow_lt {a b : Nat} (h : a < b) : (2 : Int) ^ a < 2 ^ b := by
  have h1 := pow_mono (show a + 1 ≤ b by omega)
  rw [pow_succ'] at h1
  have := two_pow_pos a
  omega
theorem sg_pow_pow (n k : Nat) : sg (2 ^ n - 2 ^ k) = sg ((n : Int) - (k : Int)) := by
  unfold sg
  rcases Nat.lt_trichotomy n k with h | h | h
  · have := pow_lt h
    rw [if_pos (by omega), if_pos (by omega)]
  · subst h; simp
  · have := pow_lt h
    rw [if_neg (by omega), if_neg (by omega), if_neg (by omega), if_neg (by omega)]
theorem sg_pow_more (n k : Nat) : sg (2 ^ n + 2 ^ k - 2 ^ n) = 1 ∧ sg (2 ^ n + 2 ^ k - 2 ^ k) = 1 := by
  have h1 := two_pow_pos n
  have h2 := two_pow_pos k
  unfold sg
  exact ⟨by rw [if_neg (by omega), if_neg (by omega)], by rw [if_neg (by omega), if_neg (by omega)]⟩
theorem termsZ_pow (n : Nat) : termsZ (2 ^ n) = [(false, (n : Int))] := by unfold termsZ; rw [form_pow2]; rfl
theorem pick_two {w W2 : World} {av : Option Addr} {cv : Nat} {zs : List Int} {ps : List (Option Addr)} (hns : NsOwn W2 w.heap.size (.slice av zs.length cv) zs ps) (hml : MadeL zs) (hb2 : Below w.heap.size w W2) (b0 b1 : Int) :
    ∃ (x y : Int) (px py : Option Addr) (bb oo m i j : Nat), av = some ⟨bb, oo, none⟩ ∧ m = zs.length ∧ m ≤ cv ∧ i < m ∧ j < m ∧
      (∀ W, Calls Try.prog 46 #[.int .i64 b0, .int .i64 (m : Int)] W fun e w' => e = .returned (.int .i64 (i : Int)) ∧ w' = W) ∧
      (∀ W, Calls Try.prog 46 #[.int .i64 b1, .int .i64 (m : Int)] W fun e w' => e = .returned (.int .i64 (j : Int)) ∧ w' = W) ∧
      (∀ W, Below W2.heap.size W2 W → W.cell? ⟨bb, oo + i, none⟩ = some (.pointer px) ∧ W.cell? ⟨bb, oo + j, none⟩ = some (.pointer py)) ∧
      St w W2 [] [] ∧ NumIs W2 (.agg #[.pointer px]) x ∧ NumIs W2 (.agg #[.pointer py]) y ∧ Mod x ∧ Mod y := by
  have hpos : 0 < zs.length := by have := hml.1; omega
  have hle : zs.length ≤ 100000 := by have := hml.2.1; omega
  obtain ⟨i, hi, -, hr1⟩ := lawRest_pick b0 hpos hle
  obtain ⟨j, hj, -, hr2⟩ := lawRest_pick b1 hpos hle
  obtain ⟨bb, oo, c, px, x, e1, hc, hbb, hx, hcx, hnx⟩ := hns.at_.pick hi
  obtain ⟨bb', oo', c', py, y, e2, -, -, hy, hcy, hny⟩ := hns.at_.pick hj
  obtain ⟨rfl, -, rfl⟩ := Value.slice.inj e1
  obtain ⟨e2', -, -⟩ := Value.slice.inj e2
  obtain ⟨rfl, rfl⟩ : bb = bb' ∧ oo = oo' := by simpa using e2'
  refine ⟨x, y, px, py, bb, oo, zs.length, i, j, rfl, rfl, hc, hi, hj, hr1, hr2, fun W hb => ?_, (St.start w).adv hb2, hnx, hny, ⟨hnx.1, hml.2.2 x (List.mem_of_getElem? hx)⟩, ⟨hny.1, hml.2.2 y (List.mem_of_getElem? hy)⟩⟩
  have hs := fun q => cell_same (hb.block _ hbb) q
  exact ⟨(hs _).trans hcx, (hs _).trans hcy⟩
end Go.Proofs.Ytgchfbfgjanaiaa

namespace Go.Proofs.Ytgchfbfgjanaiaa
open Go.RowKit Sr
def Afar (w : World) (M : Nat → Prop) : Prop := ∀ k, M k → ∀ t, TyBlk w k t → t ≠ 98 ∧ t ≠ 96 ∧ t ≠ 128 ∧ t ≠ 30
theorem Afar.apart {w : World} {M : Nat → Prop} (h : Afar w M) : Apart w M := fun k hk t ht => ⟨(h k hk t ht).1, (h k hk t ht).2.1, (h k hk t ht).2.2.1⟩
theorem own_afar {w : World} {B t s n : Nat} {v : Value} {xs : List Value} (h : w.ownsRow B t s v n xs) (ht : t ≠ 98 ∧ t ≠ 96 ∧ t ≠ 128 ∧ t ≠ 30) : Afar w (fun q => v.ownBlock = some q) := by
  intro k hk t' ⟨cs, fz, e⟩
  rcases h.2 with ⟨rfl, _⟩ | ⟨g, cap, cur, rfl, _, hg, _⟩
  · simp [Value.ownBlock] at hk
  · have : g = k := Option.some.inj hk
    subst this
    rw [hg] at e
    simp only [Option.some.injEq, Obj.cells.injEq] at e
    rw [← e.2.1]
    exact ht
theorem St.afar {w0 W W' : World} {nums : NumL} {cells : CellL} {M : Nat → Prop} (h : St w0 W nums cells) (hM : Afar W M) (hB : ∀ k, M k → w0.heap.size ≤ k) (e : Ext M W W') : St w0 W' nums cells := by
  refine ⟨below_ext h.below e hB, fun i p x hi => (h.nums_ i p x hi).apart hM.apart e, fun i k p x hi => ⟨⟨e.get (h.blk i hi) fun hk => ?_, (h.cnum i hi).apart hM.apart e⟩, (h.cells_ i k p x hi).2⟩, h.apart⟩
  exact (hM k hk _ ⟨_, _, h.blk i hi⟩).2.2.2 rfl
theorem Bytes_own {w : World} {u : Value} {x : Int} (h : NumIs w u x) : Calls Try.prog 23 #[u] w fun e w' => ∃ g c, e = .returned (.slice (some ⟨g, 0, none⟩) (bytesN x).length c) ∧ w'.ownsRow w.heap.size 5 1 (.slice (some ⟨g, 0, none⟩) (bytesN x).length c) (bytesN x).length (u8s (bytesN x)) ∧ Below w.heap.size w w' :=
  (Bytes_any h).mono fun e w' q => by
    obtain ⟨a, c, rfl, ho, hb⟩ := q
    have hpos : 0 < (bytesN x).length := by unfold bytesN; simp [twoN]
    obtain ⟨g, cap, e⟩ := own_form ho hpos
    obtain ⟨rfl, -, rfl⟩ := Value.slice.inj e
    exact ⟨g, _, rfl, ho, hb⟩
theorem trow_set : ∀ (l : List (Bool × Option Addr)) (i : Nat) (t : Bool × Option Addr), i < l.length → trow (l.set i t) = ((trow l).set (i * 2) (.bool t.1)).set (i * 2 + 1) (.pointer t.2)
  | [], i, t, h => by simp at h
  | s :: l, 0, t, _ => by simp [trow]
  | s :: l, i + 1, t, h => by
    have ih := trow_set l i t (by simpa using h)
    rw [show (i + 1) * 2 = i * 2 + 1 + 1 by omega]
    simp [trow, ih]
theorem trow_set1 : ∀ (l : List (Bool × Option Addr)) (i : Nat) (t : Bool × Option Addr) (b : Bool), l[i]? = some t → trow (l.set i (b, t.2)) = (trow l).set (i * 2) (.bool b)
  | [], i, t, b, h => by simp at h
  | s :: l, 0, t, b, h => by simp at h; subst h; simp [trow]
  | s :: l, i + 1, t, b, h => by
    have ih := trow_set1 l i t b (by simpa using h)
    rw [show (i + 1) * 2 = i * 2 + 1 + 1 by omega]
    simp [trow, ih]
theorem loadR_ok {x : Int} (h : Allowed x) : loadR (bytesN x) = (x, 0) := by
  have hx : ∃ y, Allowed y ∧ bytesN y = bytesN x := ⟨x, h, rfl⟩
  unfold loadR
  rw [dif_pos hx, bytesN_inj hx.choose_spec.1 h hx.choose_spec.2]
end Go.Proofs.Ytgchfbfgjanaiaa

namespace Go.Proofs.Ytgchfbfgjanaiaa
open Go.RowKit Sr
theorem val_perm {a b : List T} (h : a.Perm b) : val a = val b := by
  induction h with
  | nil => rfl
  | cons x _ ih => simp only [val]; rw [ih]
  | swap x y l => simp only [val]; omega
  | trans _ _ ih1 ih2 => exact ih1.trans ih2
theorem termsV_perm {a b : List (Bool × Int)} (h : a.Perm b) : termsV a = termsV b := val_perm (h.map _)
theorem sumR_perm {a b : List (Bool × Int)} (h : a.Perm b) : sumR a = sumR b := by
  unfold sumR
  rw [termsV_perm h, h.length_eq]
  congr 1
  simp only [eq_iff_iff]
  constructor
  · rintro ⟨t, ht, k⟩; exact ⟨t, h.mem_iff.1 ht, k⟩
  · rintro ⟨t, ht, k⟩; exact ⟨t, h.mem_iff.2 ht, k⟩
theorem rotated {α : Type} (d : α) (l : List α) (r : Nat) (hl : 0 < l.length) : ((List.range l.length).map fun i => l.getD ((i + r) % l.length) d).Perm l := by
  obtain ⟨n, hn⟩ : ∃ n, n = l.length := ⟨_, rfl⟩
  obtain ⟨s, hs⟩ : ∃ s, s = r % n := ⟨_, rfl⟩
  have hsn : s < n := by rw [hs]; exact Nat.mod_lt _ (by omega)
  have e : ((List.range l.length).map fun i => l.getD ((i + r) % l.length) d) = l.drop s ++ l.take s := by
    apply List.ext_getElem?
    intro i
    rw [← hn]
    by_cases hi : i < n
    · rw [List.getElem?_map, List.getElem?_range hi]
      simp only [Option.map_some]
      have hm : (i + r) % n = (i + s) % n := by rw [hs]; simp
      rw [hm]
      by_cases h1 : i + s < n
      · rw [Nat.mod_eq_of_lt h1, List.getElem?_append_left (by simp; omega), List.getElem?_drop, Nat.add_comm s i]
        rw [List.getD_eq_getElem?_getD, List.getElem?_eq_getElem (by omega)]; rfl
      · have h2 : (i + s) % n = i + s - n := by rw [Nat.mod_eq_sub_mod (by omega), Nat.mod_eq_of_lt (by omega)]
        rw [h2, List.getElem?_append_right (by simp; omega)]
        simp only [List.length_drop]
        rw [List.getElem?_take_of_lt (by omega), show i - (l.length - s) = i + s - n by omega]
        rw [List.getD_eq_getElem?_getD, List.getElem?_eq_getElem (by omega)]; rfl
    · rw [List.getElem?_eq_none (by simp; omega), List.getElem?_eq_none (by simp; omega)]
  rw [e]
  exact List.perm_append_comm.trans (by rw [List.take_append_drop])
def I8At (w : World) (v : Value) (l : List Int) : Prop :=
  ∃ a c, v = .slice a l.length c ∧ l.length ≤ c ∧ (∀ z ∈ l, -128 ≤ z ∧ z ≤ 127) ∧ (l ≠ [] → ∃ b o, a = some ⟨b, o, none⟩ ∧ b < w.heap.size ∧ ∀ (i : Nat) (z : Int), l[i]? = some z → w.cell? ⟨b, o + i, none⟩ = some (.int .i8 z))
theorem I8At.below {w w1 : World} {v : Value} {l : List Int} (h : I8At w v l) (e : Below w.heap.size w w1) : I8At w1 v l := by
  obtain ⟨a, c, rfl, h1, h2, h3⟩ := h
  refine ⟨a, c, rfl, h1, h2, fun hne => ?_⟩
  obtain ⟨b, o, rfl, hb, h4⟩ := h3 hne
  exact ⟨b, o, rfl, Nat.lt_of_lt_of_le hb e.size, fun i z hz => (cell_same (e.block b hb) _).trans (h4 i z hz)⟩
def ofI8 (zs : List Int) (z : Int) : Bool × Int := (decide (z < 0), zs.getD (z % (zs.length : Int)).toNat 0)
end Go.Proofs.Ytgchfbfgjanaiaa

namespace Go.Proofs.Ytgchfbfgjanaiaa
open Go.RowKit Sr
theorem under_nodup : ∀ (l : List T) (n : Nat), Under n l → (l.map fun t : T => t.2).Nodup
  | [], _, _ => by simp
  | t :: l, n, ⟨_, h2, _⟩ => by
    rw [List.map_cons, List.nodup_cons]
    refine ⟨fun hm => ?_, under_nodup l _ h2⟩
    obtain ⟨s, hs, e⟩ := List.mem_map.1 hm
    have := under_mem l _ h2 s hs
    omega
theorem exps_nodup (x : Int) : (exps x).Nodup := by
  obtain ⟨n, h⟩ := form_form x
  exact under_nodup _ n h
theorem diff_allowed {x : Int} (hx : Allowed x) (hw : weight x ≤ 120) {a b : Nat} (ha : a ∈ exps x) (hb : b ∈ exps x) : Allowed ((a : Int) - (b : Int)) := by
  have hpl : (plist x).length ≤ 119 := by unfold weight at hw; omega
  have hwl : ∀ p ∈ plist x, wl (p : Int) ≤ 119 := fun p hp => by
    have h1 : ((exps (p : Int))).Nodup := exps_nodup _
    have h2 := nodup_sub_nat (a := exps (p : Int)) (b := plist x) h1 fun f hf => mem_plist.2 ((mem_plist.1 hp).up hf)
    have h3 : (exps (p : Int)).length = wl (p : Int) := by simp [exps, wl]
    omega
  have hN : NearH (plist x) 10 259 := ⟨fun p hp f hf => ⟨f, mem_plist.2 ((mem_plist.1 hp).up hf), 0, by omega, rfl⟩, fun p hp => by have := hwl p hp; omega, by omega⟩
  have hap : a ∈ plist x := mem_plist.2 (.here ha)
  have hbp : b ∈ plist x := mem_plist.2 (.here hb)
  have h1 := hwl a hap
  have h2 := hwl b hbp
  have hd : ∀ e ∈ exps ((a : Int) - (b : Int)), ∃ f k, f ∈ plist x ∧ height (f : Int) + 2 ≤ height x ∧ k ≤ 10 ∧ e = f + k := fun e he => by
    rw [Int.sub_eq_add_neg] at he
    obtain ⟨f, k, hf, hk, rfl⟩ := form_add_exps (G := 11) (x := (a : Int)) (y := -(b : Int)) (by rw [wl_neg, show (2 : Int) ^ 11 = 2048 from by decide]; omega) he
    rcases hf with hf | hf
    · have q1 := height_exp hf
      have q2 := height_exp ha
      exact ⟨f, k, mem_plist.2 ((mem_plist.1 hap).up hf), by omega, by omega, rfl⟩
    · rw [exps_neg] at hf
      have q1 := height_exp hf
      have q2 := height_exp hb
      exact ⟨f, k, mem_plist.2 ((mem_plist.1 hbp).up hf), by omega, by omega, rfl⟩
  refine near_allowed hN (fun e he => ?_) ?_ (by omega) (height_le fun e he => ?_)
  · obtain ⟨f, k, hf, -, hk, rfl⟩ := hd e he
    exact nearL_mem.2 (.inl ⟨f, hf, k, hk, rfl⟩)
  · have := wl_add (a : Int) (-(b : Int))
    rw [wl_neg, ← Int.sub_eq_add_neg] at this
    omega
  · obtain ⟨f, k, hf, hh, hk, rfl⟩ := hd e he
    have h3 := hwl f hf
    have h4 := height_addn (p := f) (k := k) (by omega)
    have := hx.2.2.2
    omega
theorem termsV_Z (x : Int) : termsV (termsZ x) = x := by
  have := val_form x
  unfold termsV termsZ termsT
  rw [List.map_map]
  have e : (form x).map ((fun t : Bool × Int => (t.1, t.2.toNat)) ∘ fun t : T => (t.1, (t.2 : Int))) = form x := by
    conv => rhs; rw [← List.map_id (form x)]
    exact List.map_congr_left fun t _ => by simp
  rw [e]; exact this
theorem sumR_Z {x : Int} (hx : Allowed x) : sumR (termsZ x) = (x, 0) := by
  have h1 : ¬ ∃ t ∈ termsZ x, t.2 < 0 := by
    rintro ⟨t, ht, h⟩
    unfold termsZ at ht
    obtain ⟨s, -, rfl⟩ := List.mem_map.1 ht
    simp only at h; omega
  have h2 := hx.1
  unfold sumR
  rw [if_neg h1, if_neg (by rw [termsZ_length]; unfold wl; omega), termsV_Z, gv_ok hx]
theorem sumR_back {x : Int} (hx : Allowed x) : sumR (termsZ x).reverse = (x, 0) := by
  rw [sumR_perm (List.reverse_perm (termsZ x)), sumR_Z hx]
noncomputable def hk (x : Int) (k : Nat) : Nat := (((form x).take k).map fun t : T => height (t.2 : Int) + 1).foldl max 0
theorem hk_zero (x : Int) : hk x 0 = 0 := rfl
theorem hk_succ {x : Int} {k : Nat} {t : T} (h : (form x)[k]? = some t) : hk x (k + 1) = max (hk x k) (height (t.2 : Int) + 1) := by
  unfold hk
  rw [take_snoc h, List.map_append, List.foldl_append]
  rfl
theorem foldl_max (f : Nat → Nat) : ∀ (l : List Nat) (a : Nat), (l.map f).foldl max a = max a (l.foldr (fun e m => max (f e) m) 0)
  | [], a => by simp
  | b :: l, a => by
    rw [List.map_cons, List.foldl_cons, foldl_max f l, List.foldr_cons]
    omega
theorem hk_all (x : Int) : hk x (wl x) = height x := by
  have h1 : (form x).take (wl x) = form x := by unfold wl; exact List.take_length
  have h2 : ((form x).map fun t : T => height (t.2 : Int) + 1) = (exps x).map fun e : Nat => height (e : Int) + 1 := by
    unfold exps; rw [List.map_map]; rfl
  unfold hk
  rw [h1, h2, foldl_max (fun e : Nat => height (e : Int) + 1), height_eq]
  simp
theorem hk_le {x : Int} (hx : Allowed x) (k : Nat) : hk x k ≤ 101 := by
  have : ∀ l : List T, (∀ t ∈ l, t ∈ form x) → ∀ a, a ≤ 101 → (l.map fun t : T => height (t.2 : Int) + 1).foldl max a ≤ 101 := by
    intro l
    induction l with
    | nil => intro _ a ha; simpa using ha
    | cons t l ih =>
      intro h a ha
      rw [List.map_cons, List.foldl_cons]
      refine ih (fun s hs => h s (by simp [hs])) _ ?_
      have h1 := height_exp (mem_exps.2 ⟨t, h t (by simp), rfl⟩)
      have := hx.2.2.2
      omega
  exact this _ (fun t ht => List.mem_of_mem_take ht) 0 (by omega)
end Go.Proofs.Ytgchfbfgjanaiaa
