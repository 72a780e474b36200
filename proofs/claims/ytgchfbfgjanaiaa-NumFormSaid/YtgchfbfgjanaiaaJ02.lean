/-
  the kinds of keys that the program's maps have
  a world of forms in memory (num.world): the list of the numbers that it has tells all of it
  append to a row of the call's own, at the program's element types
-/
import Derived.Test.YtgchfbfgjanaiaaJ01
import Derived.Laws.StructEq
import Derived.Laws.BytesArg
import Derived.Maps.AppendAt
set_option linter.unusedSimpArgs false
set_option linter.unusedVariables false
namespace Go.Proofs.Ytgchfbfgjanaiaa
open Go.RowKit
theorem beq_bytes (a b : ByteArray) : (a == b) = decide (a = b) := by
  cases a; cases b
  rename_i x y
  show (x == y) = _
  by_cases h : x = y <;> simp [h]
theorem beq_ints (a b : Int) : (a == b) = decide (a = b) := by
  by_cases h : a = b <;> simp [h]
theorem zero_int (w : World) : (zeroValue 3).run Try.prog w = .ok (.int .i64 0) w := by kernel_rfl
theorem kk_string : KeyKind Try.prog 9 (fun s : ByteArray => Value.string s) where
  desc := ⟨.string, Try.underlying9, fun a b => .inr (by simp [Instr.sameNow, beq_bytes])⟩
  check := fun b k w => by kernel_rfl
  equal := fun a b w => by
    have h : (Op.equal 9 (.string a) (.string b)).run Try.prog w = .ok (a == b) w := by kernel_rfl
    rw [h, beq_bytes]
  bits := fun a => by simp [Instr.sameBits, beq_bytes]
theorem kk_int : KeyKind Try.prog 3 (fun n : Int => Value.int .i64 n) where
  desc := ⟨.int .i64, Try.underlying3, fun a b => .inr (by simp [Instr.sameNow, beq_ints])⟩
  check := fun b k w => by kernel_rfl
  equal := fun a b w => by
    have h : (Op.equal 3 (.int .i64 a) (.int .i64 b)).run Try.prog w = .ok (a == b) w := by kernel_rfl
    rw [h, beq_ints]
  bits := fun a => by simp [Instr.sameBits]
def encPair (p : Int × Int) : Value := .agg #[.int .i64 p.1, .int .i64 p.2]
theorem kk_pair : KeyKind Try.prog 143 encPair where
  desc := ⟨.array 2 3, Try.underlying143, fun a b => .inl rfl⟩
  check := fun b k w => by kernel_rfl
  equal := fun a b w => by
    obtain ⟨a1, a2⟩ := a
    obtain ⟨b1, b2⟩ := b
    have u3 := Try.underlying3
    have g3 := Try.isAgg3
    have z3 := Try.sizeOf3
    unfold Op.equal Op.maxDepth
    rw [show (10000 : Nat) = 9999 + 1 from rfl, Op.equalIn]
    simp only [encPair, Sem.run_bind, run_underlying Try.underlying143, Result.andThen_ok]
    simp only [Std.Legacy.Range.forIn_eq_forIn_range', Std.Legacy.Range.size, Nat.sub_zero, Nat.add_sub_cancel, Nat.div_one, List.range'_succ, List.range'_zero, List.forIn_cons, List.forIn_nil]
    go_simp
    by_cases h1 : a1 = b1 <;> by_cases h2 : a2 = b2 <;> simp [h1, h2]
  bits := fun a => by simp [Instr.sameBits, encPair]
end Go.Proofs.Ytgchfbfgjanaiaa

namespace Go.Proofs.Ytgchfbfgjanaiaa
open Go.RowKit Sr
def keyByte (n : Nat) (s : Nat) : Int := ((n / 2 ^ s % 256 : Nat) : Int)
def keyNums : List (Bool × Nat) → List Int
  | [] => []
  | t :: l => (if t.1 then 1 else 0) :: keyByte t.2 24 :: keyByte t.2 16 :: keyByte t.2 8 :: keyByte t.2 0 :: keyNums l
def keyS (l : List (Bool × Nat)) : ByteArray := strOfNums (keyNums l)
theorem keyNums_length : ∀ l, (keyNums l).length = l.length * 5
  | [] => rfl
  | t :: l => by simp [keyNums, keyNums_length l]; omega
theorem keyNums_append : ∀ a b, keyNums (a ++ b) = keyNums a ++ keyNums b
  | [], b => rfl
  | t :: a, b => by simp [keyNums, keyNums_append a b]
theorem keyNums_range : ∀ l, ∀ x ∈ keyNums l, 0 ≤ x ∧ x < 256
  | [], x, h => by simp [keyNums] at h
  | t :: l, x, h => by
    have hb : ∀ s, 0 ≤ keyByte t.2 s ∧ keyByte t.2 s < 256 := by
      intro s; unfold keyByte; have := Nat.mod_lt (t.2 / 2 ^ s) (show 0 < 256 by decide); omega
    simp only [keyNums, List.mem_cons] at h
    rcases h with rfl | rfl | rfl | rfl | rfl | h
    · split <;> omega
    · exact hb 24
    · exact hb 16
    · exact hb 8
    · exact hb 0
    · exact keyNums_range l x h
theorem keyByte_inj {a b : Nat} (ha : a < 4294967296) (hb : b < 4294967296) (h1 : keyByte a 24 = keyByte b 24) (h2 : keyByte a 16 = keyByte b 16) (h3 : keyByte a 8 = keyByte b 8) (h4 : keyByte a 0 = keyByte b 0) : a = b := by
  unfold keyByte at *
  simp only [Nat.reducePow] at *
  omega
theorem keyNums_inj : ∀ {a b : List (Bool × Nat)}, (∀ t ∈ a, t.2 < 4294967296) → (∀ t ∈ b, t.2 < 4294967296) → keyNums a = keyNums b → a = b
  | [], [], _, _, _ => rfl
  | [], t :: b, _, _, h => by simp [keyNums] at h
  | t :: a, [], _, _, h => by simp [keyNums] at h
  | s :: a, t :: b, ha, hb, h => by
    simp only [keyNums, List.cons.injEq] at h
    obtain ⟨h0, h1, h2, h3, h4, h5⟩ := h
    have e := keyByte_inj (ha s (by simp)) (hb t (by simp)) h1 h2 h3 h4
    have e1 : s.1 = t.1 := by cases hs : s.1 <;> cases ht : t.1 <;> simp [hs, ht] at h0 ⊢
    have e2 : s = t := Prod.ext e1 e
    rw [e2, keyNums_inj (fun u hu => ha u (by simp [hu])) (fun u hu => hb u (by simp [hu])) h5]
theorem strOfNums_inj {a b : List Int} (ha : ∀ x ∈ a, 0 ≤ x ∧ x < 256) (hb : ∀ x ∈ b, 0 ≤ x ∧ x < 256) (h0 : strOfNums a = strOfNums b) : a = b := by
  have h := congrArg (fun s : ByteArray => s.data.toList) h0
  simp only [strOfNums_data] at h
  clear h0
  induction a generalizing b with
  | nil => cases b with
    | nil => rfl
    | cons y b => simp at h
  | cons x a ih => cases b with
    | nil => simp at h
    | cons y b =>
      simp only [List.map_cons, List.cons.injEq] at h
      have hx := ha x (by simp)
      have hy := hb y (by simp)
      have e : x = y := by
        have h1 := congrArg UInt8.toNat h.1
        simp only [UInt8.toNat_ofNat'] at h1
        rw [Nat.mod_eq_of_lt (by omega), Nat.mod_eq_of_lt (by omega)] at h1
        omega
      rw [e, ih (fun z hz => ha z (by simp [hz])) (fun z hz => hb z (by simp [hz])) h.2]
theorem keyS_inj {a b : List (Bool × Nat)} (ha : ∀ t ∈ a, t.2 < 4294967296) (hb : ∀ t ∈ b, t.2 < 4294967296) (h : keyS a = keyS b) : a = b :=
  keyNums_inj ha hb (strOfNums_inj (keyNums_range a) (keyNums_range b) h)
def roomW : Nat := 1000000000
noncomputable def placesOf (vs : List Int) : List (ByteArray × Int) := (vs.zipIdx).map fun p => (keyS (enc vs p.1), (p.2 : Int))
structure WB where
  p : Nat
  f : Nat
  r1 : Nat
  r2 : Nat
  r3 : Nat
def WB.M (b : WB) : Nat → Prop := fun k => k = b.p ∨ k = b.f ∨ k = b.r1 ∨ k = b.r2 ∨ k = b.r3
structure WInv (w : World) (b : WB) (vs U : List Int) : Prop where
  cl : Cl vs
  sub : ∀ x ∈ vs, x ∈ U
  room : U.length ≤ roomW
  forms : ∃ cap cur, w.heap[b.p]? = some (.cells #[.slice (some ⟨b.f, 0, none⟩) vs.length cap, .map (some b.r1), .map (some b.r2), .map (some b.r3)] 107 (0, 0)) ∧
    w.heap[b.f]? = some (.cells cur 96 (0, 0)) ∧ vs.length ≤ cap ∧ cap ≤ maxLen ∧ cur.size = cap ∧
    ∀ (i : Nat) (x : Int), vs[i]? = some x → ∃ v, cur[i]? = some v ∧ TL w v (enc vs x) ∧ ∀ k, v.ownBlock = some k → ¬ b.M k
  places : MapIs (fun s : ByteArray => Value.string s) w b.r1 (placesOf vs)
  greater : ∃ l : List (Int × Int), MapIs (fun n : Int => Value.int .i64 n) w b.r2 l ∧ KeysApart l ∧ ∀ q ∈ l, ∃ i j : Nat, q.1 = i ∧ q.2 = j ∧ ∃ x, vs[i]? = some x ∧ vs[j]? = some (x + 1)
  order : ∃ l : List ((Int × Int) × Int), MapIs encPair w b.r3 l ∧ KeysApart l ∧ ∀ q ∈ l, ∃ i j : Nat, q.1 = ((i : Int), (j : Int)) ∧ ∃ x y, vs[i]? = some x ∧ vs[j]? = some y ∧ q.2 = sg (x - y)
  apart : b.p ≠ b.f ∧ b.p ≠ b.r1 ∧ b.p ≠ b.r2 ∧ b.p ≠ b.r3 ∧ b.f ≠ b.r1 ∧ b.f ≠ b.r2 ∧ b.f ≠ b.r3 ∧ b.r1 ≠ b.r2 ∧ b.r1 ≠ b.r3 ∧ b.r2 ≠ b.r3
theorem nodup_sub_length : ∀ {a b : List Int}, a.Nodup → (∀ x ∈ a, x ∈ b) → a.length ≤ b.length
  | [], _, _, _ => by simp
  | x :: a, b, hd, hs => by
    obtain ⟨hx, hd'⟩ := List.nodup_cons.1 hd
    have hxb : x ∈ b := hs x (by simp)
    have hlen := List.length_erase_of_mem hxb
    have hpos := List.length_pos_of_mem hxb
    have := nodup_sub_length (b := b.erase x) hd' fun y hy => by
      have hne : y ≠ x := fun e => hx (e ▸ hy)
      exact (List.mem_erase_of_ne hne).2 (hs y (by simp [hy]))
    simp only [List.length_cons]
    omega
theorem WInv.length {w : World} {b : WB} {vs U : List Int} (h : WInv w b vs U) : vs.length ≤ roomW :=
  Nat.le_trans (nodup_sub_length h.cl.nodup h.sub) h.room
structure WStep (U : List Int) (w w' : World) (b b' : WB) (vs vs' : List Int) : Prop where
  inv : WInv w' b' vs' U
  pre : vs <+: vs'
  ext : Ext b.M w w'
  p : b'.p = b.p
  r1 : b'.r1 = b.r1
  r2 : b'.r2 = b.r2
  r3 : b'.r3 = b.r3
  f : b'.f = b.f ∨ w.heap.size ≤ b'.f
theorem WStep.news {U : List Int} {w w' : World} {b b' : WB} {vs vs' : List Int} (h : WStep U w w' b b' vs vs') : ∀ k, b'.M k → b.M k ∨ w.heap.size ≤ k := by
  intro k hk
  unfold WB.M at *
  rw [h.p, h.r1, h.r2, h.r3] at hk
  rcases hk with hk | hk | hk
  · exact .inl (.inl hk)
  · rcases h.f with hf | hf
    · exact .inl (.inr (.inl (hk.trans hf)))
    · exact .inr (hk ▸ hf)
  · exact .inl (.inr (.inr hk))
theorem WStep.refl {U : List Int} {w : World} {b : WB} {vs : List Int} (h : WInv w b vs U) : WStep U w w b b vs vs :=
  ⟨h, List.prefix_refl _, Ext.refl _ _, rfl, rfl, rfl, rfl, .inl rfl⟩
theorem WStep.trans {U : List Int} {w w1 w2 : World} {b b1 b2 : WB} {vs vs1 vs2 : List Int} (h : WStep U w w1 b b1 vs vs1) (k : WStep U w1 w2 b1 b2 vs1 vs2) : WStep U w w2 b b2 vs vs2 where
  inv := k.inv
  pre := h.pre.trans k.pre
  ext := h.ext.trans k.ext h.news
  p := k.p.trans h.p
  r1 := k.r1.trans h.r1
  r2 := k.r2.trans h.r2
  r3 := k.r3.trans h.r3
  f := by
    rcases k.f with e | e
    · rw [e]; exact h.f
    · exact .inr (Nat.le_trans h.ext.size e)
theorem WInv.ext {N : Nat → Prop} {w w1 : World} {b : WB} {vs U : List Int} (h : WInv w b vs U) (e : Ext N w w1) (hN : ∀ k, N k → k < w.heap.size → False) : WInv w1 b vs U where
  cl := h.cl
  sub := h.sub
  room := h.room
  forms := by
    obtain ⟨cap, cur, h1, h2, h3, h4, h5, h6⟩ := h.forms
    refine ⟨cap, cur, e.get h1 (fun hn => hN _ hn (lt_of_blk h1)), e.get h2 (fun hn => hN _ hn (lt_of_blk h2)), h3, h4, h5, fun i x hx => ?_⟩
    obtain ⟨v, hv, ht, hk⟩ := h6 i x hx
    exact ⟨v, hv, ht.same e.size fun b hb hlt => e.block b hlt (fun hn => hN b hn hlt), hk⟩
  places := h.places.same (e.block _ h.places.lt fun hn => hN _ hn h.places.lt)
  greater := by
    obtain ⟨l, h1, h2⟩ := h.greater
    exact ⟨l, h1.same (e.block _ h1.lt fun hn => hN _ hn h1.lt), h2⟩
  order := by
    obtain ⟨l, h1, h2⟩ := h.order
    exact ⟨l, h1.same (e.block _ h1.lt fun hn => hN _ hn h1.lt), h2⟩
  apart := h.apart
theorem WInv.below {w w1 : World} {b : WB} {vs U : List Int} (h : WInv w b vs U) (e : Below w.heap.size w w1) : WInv w1 b vs U :=
  h.ext (Ext.of_below (M := noB) e) fun _ hn _ => hn
theorem WInv.lt {w : World} {b : WB} {vs U : List Int} (h : WInv w b vs U) : ∀ k, b.M k → k < w.heap.size := by
  obtain ⟨cap, cur, h1, h2, _⟩ := h.forms
  obtain ⟨l2, g2, _⟩ := h.greater
  obtain ⟨l3, g3, _⟩ := h.order
  intro k hk
  rcases hk with rfl | rfl | rfl | rfl | rfl
  · exact lt_of_blk h1
  · exact lt_of_blk h2
  · exact h.places.lt
  · exact g2.lt
  · exact g3.lt
theorem WInv.pos {w : World} {b : WB} {vs U : List Int} (h : WInv w b vs U) : 0 < vs.length := by
  have := h.cl.zero
  exact (List.getElem?_eq_some_iff.1 this).1
theorem enc_lt {vs : List Int} {x : Int} (hc : Cov vs x) : ∀ t ∈ enc vs x, t.2 < vs.length := by
  intro t ht
  obtain ⟨s, hs, rfl⟩ := List.mem_map.1 ht
  exact List.idxOf_lt_length_of_mem (hc s hs)
theorem zipIdx_find {α : Type} (q : α → Bool) : ∀ (l : List α) (k : Nat), ((l.zipIdx k).find? fun p => q p.1) = (l.findIdx? q).bind fun j => (l[j]?).map fun x => (x, j + k)
  | [], k => rfl
  | x :: l, k => by
    rw [List.zipIdx_cons, List.find?_cons, List.findIdx?_cons]
    by_cases hq : q x = true
    · simp [hq]
    · have hq' : q x = false := by simpa using hq
      simp only [hq', zipIdx_find q l (k + 1), Bool.false_eq_true, if_false]
      cases l.findIdx? q with
      | none => rfl
      | some j =>
        simp only [Option.bind_some, Option.map_some, List.getElem?_cons_succ]
        cases l[j]? with
        | none => rfl
        | some y => simp; omega
theorem lookK_places {vs : List Int} (hcl : Cl vs) (hlen : vs.length ≤ roomW) {x : Int} (hc : Cov vs x) :
    lookK (placesOf vs) (keyS (enc vs x)) = if x ∈ vs then some ((vs.idxOf x : Nat) : Int) else none := by
  have hlt : vs.length ≤ 4294967296 := by unfold roomW at hlen; omega
  have hkey : ∀ y ∈ vs, (keyS (enc vs x) = keyS (enc vs y)) ↔ x = y := by
    intro y hy
    refine ⟨fun h => enc_inj hc (keyS_inj ?_ ?_ h), fun h => by rw [h]⟩
    · intro t ht; have := enc_lt hc t ht; omega
    · intro t ht; have := enc_lt (hcl.cov hy) t ht; omega
  unfold lookK placesOf
  rw [List.find?_map]
  simp only [Function.comp_def]
  rw [zipIdx_find (fun y => decide (keyS (enc vs x) = keyS (enc vs y))) vs 0]
  by_cases hx : x ∈ vs
  · rw [if_pos hx]
    have : vs.findIdx? (fun y => decide (keyS (enc vs x) = keyS (enc vs y))) = some (vs.idxOf x) := by
      rw [List.findIdx?_eq_some_iff_getElem]
      refine ⟨List.idxOf_lt_length_of_mem hx, by simp, ?_⟩
      intro j hj
      have hjl : j < vs.length := Nat.lt_trans hj (List.idxOf_lt_length_of_mem hx)
      simp only [decide_eq_true_eq, hkey _ (List.getElem_mem hjl)]
      intro e
      have := hcl.nodup.idxOf_getElem j hjl
      rw [← e] at this
      omega
    rw [this]
    simp [idxOf_get hx]
  · rw [if_neg hx]
    have : vs.findIdx? (fun y => decide (keyS (enc vs x) = keyS (enc vs y))) = none := by
      rw [List.findIdx?_eq_none_iff]
      intro y hy
      simp only [decide_eq_false_iff_not, hkey y hy]
      intro e
      exact hx (e ▸ hy)
    rw [this]
    rfl
theorem keyS_ne {vs : List Int} (hcl : Cl vs) (hlen : vs.length ≤ roomW) {x y : Int} (hx : Cov vs x) (hy : Cov vs y) (h : keyS (enc vs x) = keyS (enc vs y)) : x = y := by
  have hlt : vs.length ≤ 4294967296 := by unfold roomW at hlen; omega
  refine enc_inj hx (keyS_inj ?_ ?_ h)
  · intro t ht; have := enc_lt hx t ht; omega
  · intro t ht; have := enc_lt hy t ht; omega
theorem placesOf_apart {vs : List Int} (hcl : Cl vs) (hlen : vs.length ≤ roomW) : KeysApart (placesOf vs) := by
  unfold KeysApart placesOf
  rw [List.pairwise_map, List.pairwise_iff_getElem]
  intro i j hi hj hij
  simp only [List.length_zipIdx] at hi hj
  simp only [List.getElem_zipIdx]
  intro e
  have := keyS_ne hcl hlen (hcl.cov (List.getElem_mem hi)) (hcl.cov (List.getElem_mem hj)) e
  exact List.pairwise_iff_getElem.1 hcl.nodup i j hi hj hij this
theorem placesOf_push {vs : List Int} (hcl : Cl vs) {x : Int} (hc : Cov vs x) : placesOf (vs ++ [x]) = placesOf vs ++ [(keyS (enc vs x), (vs.length : Int))] := by
  unfold placesOf
  rw [List.zipIdx_append, List.map_append]
  congr 1
  · apply List.map_congr_left
    intro p hp
    have hm : p.1 ∈ vs := by
      have := List.mem_map_of_mem (f := Prod.fst) hp
      rwa [List.zipIdx_map_fst] at this
    rw [enc_prefix (List.prefix_append vs [x]) (hcl.cov hm)]
  · simp [enc_prefix (List.prefix_append vs [x]) hc]
end Go.Proofs.Ytgchfbfgjanaiaa

namespace Go.Proofs.Ytgchfbfgjanaiaa
open Go.RowKit
section
variable {P : Program} {ops : Array Oper} {rest : List Oper} {o : Oper} {a : Act} {Q : Exit → Act → World → Prop}
def NewOr (W : World) (v v' : Value) : Prop := v'.ownBlock = v.ownBlock ∨ ∃ k, v'.ownBlock = some k ∧ W.heap.size ≤ k
theorem NewOr.mono {W W1 : World} {v v' : Value} (h : NewOr W1 v v') (hs : W.heap.size ≤ W1.heap.size) : NewOr W v v' := by
  rcases h with h | ⟨k, h, h2⟩
  · exact .inl h
  · exact .inr ⟨k, h, Nat.le_trans hs h2⟩
structure ElemT (P : Program) (t e size : Nat) (z : Value) (bytes : Nat) : Prop where
  ht : P.underlying t = some (.slice e)
  info : (P.info? e).map (fun i => (i.zero, i.size, i.bytes)) = some (some z, size, bytes)
  hz : z.cells.size = size
  pos : 0 < size
  small : bytes ≤ 64
theorem grown_trans {w w1 w2 : World} {row : Option Nat} (h : w.grownBy w1 row) (k : w1.grownBy w2 row) : w.grownBy w2 row :=
  ⟨k.os.trans h.os, k.tape.trans h.tape, k.output.trans h.output, Nat.le_trans h.size k.size, fun i hi hn => (k.block i (Nat.lt_of_lt_of_le hi h.size) hn).trans (h.block i hi hn)⟩
theorem ap_blk {t e size bytes : Nat} {z : Value} (E : ElemT P t e size z bytes) {W : World} {B n m c : Nat} {v : Value} {xs : List Value} (s x : Operand) (hgd : o.guard = none)
    (ho : o.op = .call { callee := .builtin .append, args := #[s, x], argTypes := #[t, t] }) (hs : a.eval s = v) (hown : W.ownsRow B e size v n xs)
    {b : Nat} {off : Nat} (hx : a.eval x = .slice (some ⟨b, off, none⟩) m c) {news : List Value} (hl : news.length = m * size) (hr : Reads W b off news) (h1 : ∀ u ∈ news, u.oneCell' = true)
    (hn : n + m ≤ 1000000000) (hB : B ≤ W.heap.size)
    (h : ∀ v' w', w'.ownsRow B e size v' (n + m) (xs ++ news) → W.grownBy w' v.ownBlock → NewOr W v v' → wpList P ops Q rest (a.put o.dst v') w') : wpList P ops Q (o :: rest) a W := by
  obtain ⟨i0, hi, hzz⟩ := Option.map_eq_some_iff.1 E.info
  simp only [Prod.mk.injEq] at hzz
  obtain ⟨hz0, hz1, hz2⟩ := hzz
  have hsm := E.small
  have hmul : (n + m) * bytes ≤ 1000000000 * 64 := Nat.mul_le_mul hn E.small
  refine wpList_append_own_at W hgd s x t ho B e i0 z size bytes E.ht hi hz0 hz1 hz2 E.hz E.pos v n xs hs hown ⟨b, off, none⟩ m c news hx hl (fun j u hu => ?_) h1 (by unfold maxLen; omega) (by omega) hB ?_
  · have : (⟨b, off, none⟩ : Addr).add j = ⟨b, off + j, none⟩ := by unfold Addr.add; split <;> simp_all
    rw [this]; exact hr j u hu
  · intro v' w' h2 h3 _ h4
    refine h v' w' h2 h3 ?_
    rcases h4 with h4 | h4
    · exact .inl h4
    · exact .inr ⟨_, h4, Nat.le_refl _⟩
theorem ap_lit {t e size bytes : Nat} {z : Value} (E : ElemT P t e size z bytes) {W : World} {B n m b : Nat} {v : Value} {xs : List Value} {news : Array Value} (s x : Operand) (hgd : o.guard = none)
    (ho : o.op = .call { callee := .builtin .append, args := #[s, x], argTypes := #[t, t] }) (hs : a.eval s = v) (hown : W.ownsRow B e size v n xs)
    (hx : a.eval x = .slice (some ⟨b, 0, none⟩) m m) (hb : b = W.heap.size) (hl : news.size = m * size) (h1 : ∀ u ∈ news.toList, u.oneCell' = true)
    (hn : n + m ≤ 1000000000) (hB : B ≤ W.heap.size)
    (h : ∀ v' w', w'.ownsRow B e size v' (n + m) (xs ++ news.toList) → W.grownBy w' v.ownBlock → NewOr W v v' → wpList P ops Q rest (a.put o.dst v') w') : wpList P ops Q (o :: rest) a (W.alloc (.cells news e)) := by
  subst hb
  refine ap_blk E s x hgd ho hs (hown.alloc _) hx (by simpa using hl) (fun j u hu => ?_) h1 hn (by simp; omega) fun v' w' h2 h3 h4 => h v' w' h2 (grown_trans (World.grownBy_alloc W _ _) h3) (h4.mono (by simp))
  rw [cell_of_blk (blk_alloc W _), Nat.zero_add]
  simpa using hu
theorem own_form {w : World} {B e size n : Nat} {v : Value} {xs : List Value} (h : w.ownsRow B e size v n xs) (hn : 0 < n) : ∃ g cap, v = .slice (some ⟨g, 0, none⟩) n cap := by
  rcases h.2 with ⟨_, h0⟩ | ⟨g, cap, cur, rfl, _⟩
  · omega
  · exact ⟨g, cap, rfl⟩
theorem ap_litp {t e size bytes : Nat} {z : Value} (E : ElemT P t e size z bytes) {W : World} {B n m b : Nat} {v : Value} {xs : List Value} {news : Array Value} (s x : Operand) (hgd : o.guard = none)
    (ho : o.op = .call { callee := .builtin .append, args := #[s, x], argTypes := #[t, t] }) (hs : a.eval s = v) (hown : W.ownsRow B e size v n xs)
    (hx : a.eval x = .slice (some ⟨b, 0, none⟩) m m) (hb : b = W.heap.size) (hl : news.size = m * size) (hm : 0 < m) (h1 : ∀ u ∈ news.toList, u.oneCell' = true)
    (hn : n + m ≤ 1000000000) (hB : B ≤ W.heap.size)
    (h : ∀ g cap w', w'.ownsRow B e size (.slice (some ⟨g, 0, none⟩) (n + m) cap) (n + m) (xs ++ news.toList) → W.grownBy w' v.ownBlock → NewOr W v (.slice (some ⟨g, 0, none⟩) (n + m) cap) → wpList P ops Q rest (a.put o.dst (.slice (some ⟨g, 0, none⟩) (n + m) cap)) w') : wpList P ops Q (o :: rest) a (W.alloc (.cells news e)) :=
  ap_lit E s x hgd ho hs hown hx hb hl h1 hn hB fun v' w' h2 h3 h4 => by
    obtain ⟨g, cap, rfl⟩ := own_form h2 (by omega)
    exact h g cap w' h2 h3 h4
theorem run_append_none {t e : TypeId} (ht : P.underlying t = some (.slice e)) (i : TypeInfo) (hi : P.info? e = some i) (w : World) (ty : TypeId) (A A' : Option Addr) (n c c' : Nat) (hc : n ≤ c) :
    (Builtin.append_ #[t, t] ty #[.slice A n c, .slice A' 0 c']).run P w = .ok (.slice A n c) w := by
  have hf : (Builtin.firstCells i.size 0 (.slice A' 0 c')).run P w = .ok #[] w := by
    cases A' <;> simp [Builtin.firstCells, loadCells, loadCellsFrom]
  cases A <;> simp [Builtin.append_, run_underlying ht, sizeOf, typeInfo, hi, Builtin.lenOf, hc, hf, storeCells]
theorem ap_none {t e size bytes : Nat} {z : Value} (E : ElemT P t e size z bytes) {W : World} {A A' : Option Addr} {n c c' : Nat} (s x : Operand) (hgd : o.guard = none)
    (ho : o.op = .call { callee := .builtin .append, args := #[s, x], argTypes := #[t, t] }) (hs : a.eval s = .slice A n c) (hc : n ≤ c)
    (hx : a.eval x = .slice A' 0 c') (h : wpList P ops Q rest (a.put o.dst (.slice A n c)) W) : wpList P ops Q (o :: rest) a W := by
  obtain ⟨i0, hi, _⟩ := Option.map_eq_some_iff.1 E.info
  refine wpList_plain hgd fun K hK => ?_
  unfold Oper.wp execOp
  simp only [ho, resolve, invoke, builtin, Sem.run_bind, Sem.run_pure, Result.andThen_ok, List.map_toArray, List.map_cons, List.map_nil, hs, hx, run_append_none E.ht i0 hi W o.type A A' n c c' hc]
  exact hK _ _ h
theorem run_mk0 {t e size bytes : Nat} {z : Value} (E : ElemT P t e size z bytes) (c : Nat) (hc : c ≤ 1000000000) (w : World) :
    (Instr.makeSlice t (.int .i64 0) (.int .i64 (c : Int))).run P w = .ok (.slice (some ⟨w.heap.size, 0, none⟩) 0 c) (w.alloc (.cells (madeCells z.cells (c * size)) e)) := by
  obtain ⟨i, hi, hzz⟩ := Option.map_eq_some_iff.1 E.info
  simp only [Prod.mk.injEq] at hzz
  obtain ⟨hz0, hz1, hz2⟩ := hzz
  have hb : (i.bytes : Int) * (c : Int) ≤ 281474976710656 := by
    have h1 := Nat.mul_le_mul E.small hc
    rw [hz2, ← Int.natCast_mul]; omega
  have := run_make (P := P) w t e i z E.ht hi hz0 .i64 .i64 0 c (Int.le_refl _) (by omega) hb (by omega)
  simpa [hz1] using this
theorem run_mk {t e size bytes : Nat} {z : Value} (E : ElemT P t e size z bytes) (c : Nat) (hc : c ≤ 1000000000) (w : World) :
    (Instr.makeSlice t (.int .i64 (c : Int)) (.int .i64 (c : Int))).run P w = .ok (.slice (some ⟨w.heap.size, 0, none⟩) c c) (w.alloc (.cells (madeCells z.cells (c * size)) e)) := by
  obtain ⟨i, hi, hzz⟩ := Option.map_eq_some_iff.1 E.info
  simp only [Prod.mk.injEq] at hzz
  obtain ⟨hz0, hz1, hz2⟩ := hzz
  have hb : (i.bytes : Int) * (c : Int) ≤ 281474976710656 := by
    have h1 := Nat.mul_le_mul E.small hc
    rw [hz2, ← Int.natCast_mul]; omega
  have := run_make (P := P) w t e i z E.ht hi hz0 .i64 .i64 c c (by omega) (Int.le_refl _) hb (by omega)
  simpa [hz1] using this
end
theorem el_u8 : ElemT Try.prog 22 5 1 (.int .u8 0) 1 := ⟨Try.underlying22, by kernel_rfl, rfl, by decide, by decide⟩
theorem el_term : ElemT Try.prog 96 98 2 (.agg #[.bool false, .int .i64 0]) 16 := ⟨Try.underlying96, by kernel_rfl, rfl, by decide, by decide⟩
theorem el_terms : ElemT Try.prog 102 96 1 (.slice none 0 0) 24 := ⟨Try.underlying102, by kernel_rfl, rfl, by decide, by decide⟩
theorem el_int : ElemT Try.prog 57 3 1 (.int .i64 0) 8 := ⟨Try.underlying57, by kernel_rfl, rfl, by decide, by decide⟩
end Go.Proofs.Ytgchfbfgjanaiaa
