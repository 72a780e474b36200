/-
  the kinds of keys that the program's maps have
  a world of forms in memory (num.world): the list of the numbers that it has tells all of it
  append to a row of the call's own, at the program's element types
  turns of states: plain; modulo, Rest
  turn.turning's closure; turning
  ways of states: plain; states as keys; states in a row
-/
import Derived.Test.YthmagdibjbadaaaJ01
import Derived.Laws.StructEq
import Derived.Laws.BytesArg
import Derived.Maps.AppendAt
import Derived.Deep.LoopGhost
import Derived.Deep.DeepMust
import Derived.StillTailTactics
import Derived.BigRegion
import Derived.Deep.RegionHeld3
set_option linter.unusedSimpArgs false
set_option linter.unusedVariables false
namespace Go.Proofs.Ythmagdibjbadaaa
open Go.RowKit

theorem beq_bytes (a b : ByteArray) : (a == b) = decide (a = b) := by
  cases a; cases b
  rename_i x y
  show (x == y) = _
  by_cases h : x = y <;> simp [h]

theorem beq_ints (a b : Int) : (a == b) = decide (a = b) := by
  by_cases h : a = b <;> simp [h]

theorem zero_int (w : World) : (zeroValue 3).run Try.prog w = .ok (.int .i64 0) w := by kernel_rfl

theorem kk_string : KeyKind Try.prog 9 (fun s : ByteArray => Value.string s) where
  desc := ⟨.string, Try.underlying9, fun a b => .inr (by simp [Instr.sameNow, beq_bytes])⟩
  check := fun b k w => by kernel_rfl
  equal := fun a b w => by
    have h : (Op.equal 9 (.string a) (.string b)).run Try.prog w = .ok (a == b) w := by kernel_rfl
    rw [h, beq_bytes]
  bits := fun a => by simp [Instr.sameBits, beq_bytes]

theorem kk_int : KeyKind Try.prog 3 (fun n : Int => Value.int .i64 n) where
  desc := ⟨.int .i64, Try.underlying3, fun a b => .inr (by simp [Instr.sameNow, beq_ints])⟩
  check := fun b k w => by kernel_rfl
  equal := fun a b w => by
    have h : (Op.equal 3 (.int .i64 a) (.int .i64 b)).run Try.prog w = .ok (a == b) w := by kernel_rfl
    rw [h, beq_ints]
  bits := fun a => by simp [Instr.sameBits]

def encPair (p : Int × Int) : Value := .agg #[.int .i64 p.1, .int .i64 p.2]

theorem kk_pair : KeyKind Try.prog 97 encPair where
  desc := ⟨.array 2 3, Try.underlying97, fun a b => .inl rfl⟩
  check := fun b k w => by kernel_rfl
  equal := fun a b w => by
    obtain ⟨a1, a2⟩ := a
    obtain ⟨b1, b2⟩ := b
    have u3 := Try.underlying3
    have g3 := Try.isAgg3
    have z3 := Try.sizeOf3
    unfold Op.equal Op.maxDepth
    rw [show (10000 : Nat) = 9999 + 1 from rfl, Op.equalIn]
    simp only [encPair, Sem.run_bind, run_underlying Try.underlying97, Result.andThen_ok]
    simp only [Std.Legacy.Range.forIn_eq_forIn_range', Std.Legacy.Range.size, Nat.sub_zero, Nat.add_sub_cancel, Nat.div_one, List.range'_succ, List.range'_zero, List.forIn_cons, List.forIn_nil]
    go_simp
    by_cases h1 : a1 = b1 <;> by_cases h2 : a2 = b2 <;> simp [h1, h2]
  bits := fun a => by simp [Instr.sameBits, encPair]

end Go.Proofs.Ythmagdibjbadaaa

namespace Go.Proofs.Ythmagdibjbadaaa
open Go.RowKit Sr

/-- the bytes of a place -/
def keyByte (n : Nat) (s : Nat) : Int := ((n / 2 ^ s % 256 : Nat) : Int)

/-- the key of a form -/
def keyNums : List (Bool × Nat) → List Int
  | [] => []
  | t :: l => (if t.1 then 1 else 0) :: keyByte t.2 24 :: keyByte t.2 16 :: keyByte t.2 8 :: keyByte t.2 0 :: keyNums l

def keyS (l : List (Bool × Nat)) : ByteArray := strOfNums (keyNums l)

theorem keyNums_length : ∀ l, (keyNums l).length = l.length * 5
  | [] => rfl
  | t :: l => by simp [keyNums, keyNums_length l]; omega

theorem keyNums_append : ∀ a b, keyNums (a ++ b) = keyNums a ++ keyNums b
  | [], b => rfl
  | t :: a, b => by simp [keyNums, keyNums_append a b]

theorem keyNums_range : ∀ l, ∀ x ∈ keyNums l, 0 ≤ x ∧ x < 256
  | [], x, h => by simp [keyNums] at h
  | t :: l, x, h => by
    have hb : ∀ s, 0 ≤ keyByte t.2 s ∧ keyByte t.2 s < 256 := by
      intro s; unfold keyByte; have := Nat.mod_lt (t.2 / 2 ^ s) (show 0 < 256 by decide); omega
    simp only [keyNums, List.mem_cons] at h
    rcases h with rfl | rfl | rfl | rfl | rfl | h
    · split <;> omega
    · exact hb 24
    · exact hb 16
    · exact hb 8
    · exact hb 0
    · exact keyNums_range l x h

theorem keyByte_inj {a b : Nat} (ha : a < 4294967296) (hb : b < 4294967296) (h1 : keyByte a 24 = keyByte b 24) (h2 : keyByte a 16 = keyByte b 16) (h3 : keyByte a 8 = keyByte b 8) (h4 : keyByte a 0 = keyByte b 0) : a = b := by
  unfold keyByte at *
  simp only [Nat.reducePow] at *
  omega

theorem keyNums_inj : ∀ {a b : List (Bool × Nat)}, (∀ t ∈ a, t.2 < 4294967296) → (∀ t ∈ b, t.2 < 4294967296) → keyNums a = keyNums b → a = b
  | [], [], _, _, _ => rfl
  | [], t :: b, _, _, h => by simp [keyNums] at h
  | t :: a, [], _, _, h => by simp [keyNums] at h
  | s :: a, t :: b, ha, hb, h => by
    simp only [keyNums, List.cons.injEq] at h
    obtain ⟨h0, h1, h2, h3, h4, h5⟩ := h
    have e := keyByte_inj (ha s (by simp)) (hb t (by simp)) h1 h2 h3 h4
    have e1 : s.1 = t.1 := by cases hs : s.1 <;> cases ht : t.1 <;> simp [hs, ht] at h0 ⊢
    have e2 : s = t := Prod.ext e1 e
    rw [e2, keyNums_inj (fun u hu => ha u (by simp [hu])) (fun u hu => hb u (by simp [hu])) h5]

theorem strOfNums_inj {a b : List Int} (ha : ∀ x ∈ a, 0 ≤ x ∧ x < 256) (hb : ∀ x ∈ b, 0 ≤ x ∧ x < 256) (h0 : strOfNums a = strOfNums b) : a = b := by
  have h := congrArg (fun s : ByteArray => s.data.toList) h0
  simp only [strOfNums_data] at h
  clear h0
  induction a generalizing b with
  | nil => cases b with
    | nil => rfl
    | cons y b => simp at h
  | cons x a ih => cases b with
    | nil => simp at h
    | cons y b =>
      simp only [List.map_cons, List.cons.injEq] at h
      have hx := ha x (by simp)
      have hy := hb y (by simp)
      have e : x = y := by
        have h1 := congrArg UInt8.toNat h.1
        simp only [UInt8.toNat_ofNat'] at h1
        rw [Nat.mod_eq_of_lt (by omega), Nat.mod_eq_of_lt (by omega)] at h1
        omega
      rw [e, ih (fun z hz => ha z (by simp [hz])) (fun z hz => hb z (by simp [hz])) h.2]

theorem keyS_inj {a b : List (Bool × Nat)} (ha : ∀ t ∈ a, t.2 < 4294967296) (hb : ∀ t ∈ b, t.2 < 4294967296) (h : keyS a = keyS b) : a = b :=
  keyNums_inj ha hb (strOfNums_inj (keyNums_range a) (keyNums_range b) h)

/-- how many numbers a world has at most -/
def roomW : Nat := 1000000000

/-- the entries of 'places': of each number its key and its place -/
noncomputable def placesOf (vs : List Int) : List (ByteArray × Int) := (vs.zipIdx).map fun p => (keyS (enc vs p.1), (p.2 : Int))

/-- the blocks of a world that its methods write -/
structure WB where
  p : Nat
  f : Nat
  r1 : Nat
  r2 : Nat
  r3 : Nat

def WB.M (b : WB) : Nat → Prop := fun k => k = b.p ∨ k = b.f ∨ k = b.r1 ∨ k = b.r2 ∨ k = b.r3

/-- THE WORLD at b HAS THE NUMBERS vs, all of them out of U -/
structure WInv (w : World) (b : WB) (vs U : List Int) : Prop where
  cl : Cl vs
  sub : ∀ x ∈ vs, x ∈ U
  room : U.length ≤ roomW
  forms : ∃ cap cur, w.heap[b.p]? = some (.cells #[.slice (some ⟨b.f, 0, none⟩) vs.length cap, .map (some b.r1), .map (some b.r2), .map (some b.r3)] 80 (0, 0)) ∧
    w.heap[b.f]? = some (.cells cur 67 (0, 0)) ∧ vs.length ≤ cap ∧ cap ≤ maxLen ∧ cur.size = cap ∧
    ∀ (i : Nat) (x : Int), vs[i]? = some x → ∃ v, cur[i]? = some v ∧ TL w v (enc vs x) ∧ ∀ k, v.ownBlock = some k → ¬ b.M k
  places : MapIs (fun s : ByteArray => Value.string s) w b.r1 (placesOf vs)
  greater : ∃ l : List (Int × Int), MapIs (fun n : Int => Value.int .i64 n) w b.r2 l ∧ KeysApart l ∧ ∀ q ∈ l, ∃ i j : Nat, q.1 = i ∧ q.2 = j ∧ ∃ x, vs[i]? = some x ∧ vs[j]? = some (x + 1)
  order : ∃ l : List ((Int × Int) × Int), MapIs encPair w b.r3 l ∧ KeysApart l ∧ ∀ q ∈ l, ∃ i j : Nat, q.1 = ((i : Int), (j : Int)) ∧ ∃ x y, vs[i]? = some x ∧ vs[j]? = some y ∧ q.2 = sg (x - y)
  apart : b.p ≠ b.f ∧ b.p ≠ b.r1 ∧ b.p ≠ b.r2 ∧ b.p ≠ b.r3 ∧ b.f ≠ b.r1 ∧ b.f ≠ b.r2 ∧ b.f ≠ b.r3 ∧ b.r1 ≠ b.r2 ∧ b.r1 ≠ b.r3 ∧ b.r2 ≠ b.r3

theorem nodup_sub_length : ∀ {a b : List Int}, a.Nodup → (∀ x ∈ a, x ∈ b) → a.length ≤ b.length
  | [], _, _, _ => by simp
  | x :: a, b, hd, hs => by
    obtain ⟨hx, hd'⟩ := List.nodup_cons.1 hd
    have hxb : x ∈ b := hs x (by simp)
    have hlen := List.length_erase_of_mem hxb
    have hpos := List.length_pos_of_mem hxb
    have := nodup_sub_length (b := b.erase x) hd' fun y hy => by
      have hne : y ≠ x := fun e => hx (e ▸ hy)
      exact (List.mem_erase_of_ne hne).2 (hs y (by simp [hy]))
    simp only [List.length_cons]
    omega

theorem WInv.length {w : World} {b : WB} {vs U : List Int} (h : WInv w b vs U) : vs.length ≤ roomW :=
  Nat.le_trans (nodup_sub_length h.cl.nodup h.sub) h.room

/-- what a method of a world has done: its world has, perhaps, more numbers; all else is as it was -/
structure WStep (U : List Int) (w w' : World) (b b' : WB) (vs vs' : List Int) : Prop where
  inv : WInv w' b' vs' U
  pre : vs <+: vs'
  ext : Ext b.M w w'
  p : b'.p = b.p
  r1 : b'.r1 = b.r1
  r2 : b'.r2 = b.r2
  r3 : b'.r3 = b.r3
  f : b'.f = b.f ∨ w.heap.size ≤ b'.f

theorem WStep.news {U : List Int} {w w' : World} {b b' : WB} {vs vs' : List Int} (h : WStep U w w' b b' vs vs') : ∀ k, b'.M k → b.M k ∨ w.heap.size ≤ k := by
  intro k hk
  unfold WB.M at *
  rw [h.p, h.r1, h.r2, h.r3] at hk
  rcases hk with hk | hk | hk
  · exact .inl (.inl hk)
  · rcases h.f with hf | hf
    · exact .inl (.inr (.inl (hk.trans hf)))
    · exact .inr (hk ▸ hf)
  · exact .inl (.inr (.inr hk))

theorem WStep.refl {U : List Int} {w : World} {b : WB} {vs : List Int} (h : WInv w b vs U) : WStep U w w b b vs vs :=
  ⟨h, List.prefix_refl _, Ext.refl _ _, rfl, rfl, rfl, rfl, .inl rfl⟩

theorem WStep.trans {U : List Int} {w w1 w2 : World} {b b1 b2 : WB} {vs vs1 vs2 : List Int} (h : WStep U w w1 b b1 vs vs1) (k : WStep U w1 w2 b1 b2 vs1 vs2) : WStep U w w2 b b2 vs vs2 where
  inv := k.inv
  pre := h.pre.trans k.pre
  ext := h.ext.trans k.ext h.news
  p := k.p.trans h.p
  r1 := k.r1.trans h.r1
  r2 := k.r2.trans h.r2
  r3 := k.r3.trans h.r3
  f := by
    rcases k.f with e | e
    · rw [e]; exact h.f
    · exact .inr (Nat.le_trans h.ext.size e)

/-- the world stays while other memory turns -/
theorem WInv.ext {N : Nat → Prop} {w w1 : World} {b : WB} {vs U : List Int} (h : WInv w b vs U) (e : Ext N w w1) (hN : ∀ k, N k → k < w.heap.size → False) : WInv w1 b vs U where
  cl := h.cl
  sub := h.sub
  room := h.room
  forms := by
    obtain ⟨cap, cur, h1, h2, h3, h4, h5, h6⟩ := h.forms
    refine ⟨cap, cur, e.get h1 (fun hn => hN _ hn (lt_of_blk h1)), e.get h2 (fun hn => hN _ hn (lt_of_blk h2)), h3, h4, h5, fun i x hx => ?_⟩
    obtain ⟨v, hv, ht, hk⟩ := h6 i x hx
    exact ⟨v, hv, ht.same e.size fun b hb hlt => e.block b hlt (fun hn => hN b hn hlt), hk⟩
  places := h.places.same (e.block _ h.places.lt fun hn => hN _ hn h.places.lt)
  greater := by
    obtain ⟨l, h1, h2⟩ := h.greater
    exact ⟨l, h1.same (e.block _ h1.lt fun hn => hN _ hn h1.lt), h2⟩
  order := by
    obtain ⟨l, h1, h2⟩ := h.order
    exact ⟨l, h1.same (e.block _ h1.lt fun hn => hN _ hn h1.lt), h2⟩
  apart := h.apart

theorem WInv.below {w w1 : World} {b : WB} {vs U : List Int} (h : WInv w b vs U) (e : Below w.heap.size w w1) : WInv w1 b vs U :=
  h.ext (Ext.of_below (M := noB) e) fun _ hn _ => hn

theorem WInv.lt {w : World} {b : WB} {vs U : List Int} (h : WInv w b vs U) : ∀ k, b.M k → k < w.heap.size := by
  obtain ⟨cap, cur, h1, h2, _⟩ := h.forms
  obtain ⟨l2, g2, _⟩ := h.greater
  obtain ⟨l3, g3, _⟩ := h.order
  intro k hk
  rcases hk with rfl | rfl | rfl | rfl | rfl
  · exact lt_of_blk h1
  · exact lt_of_blk h2
  · exact h.places.lt
  · exact g2.lt
  · exact g3.lt

theorem WInv.pos {w : World} {b : WB} {vs U : List Int} (h : WInv w b vs U) : 0 < vs.length := by
  have := h.cl.zero
  exact (List.getElem?_eq_some_iff.1 this).1

theorem enc_lt {vs : List Int} {x : Int} (hc : Cov vs x) : ∀ t ∈ enc vs x, t.2 < vs.length := by
  intro t ht
  obtain ⟨s, hs, rfl⟩ := List.mem_map.1 ht
  exact List.idxOf_lt_length_of_mem (hc s hs)

theorem zipIdx_find {α : Type} (q : α → Bool) : ∀ (l : List α) (k : Nat), ((l.zipIdx k).find? fun p => q p.1) = (l.findIdx? q).bind fun j => (l[j]?).map fun x => (x, j + k)
  | [], k => rfl
  | x :: l, k => by
    rw [List.zipIdx_cons, List.find?_cons, List.findIdx?_cons]
    by_cases hq : q x = true
    · simp [hq]
    · have hq' : q x = false := by simpa using hq
      simp only [hq', zipIdx_find q l (k + 1), Bool.false_eq_true, if_false]
      cases l.findIdx? q with
      | none => rfl
      | some j =>
        simp only [Option.bind_some, Option.map_some, List.getElem?_cons_succ]
        cases l[j]? with
        | none => rfl
        | some y => simp; omega

/-- what 'places' tells of a form -/
theorem lookK_places {vs : List Int} (hcl : Cl vs) (hlen : vs.length ≤ roomW) {x : Int} (hc : Cov vs x) :
    lookK (placesOf vs) (keyS (enc vs x)) = if x ∈ vs then some ((vs.idxOf x : Nat) : Int) else none := by
  have hlt : vs.length ≤ 4294967296 := by unfold roomW at hlen; omega
  have hkey : ∀ y ∈ vs, (keyS (enc vs x) = keyS (enc vs y)) ↔ x = y := by
    intro y hy
    refine ⟨fun h => enc_inj hc (keyS_inj ?_ ?_ h), fun h => by rw [h]⟩
    · intro t ht; have := enc_lt hc t ht; omega
    · intro t ht; have := enc_lt (hcl.cov hy) t ht; omega
  unfold lookK placesOf
  rw [List.find?_map]
  simp only [Function.comp_def]
  rw [zipIdx_find (fun y => decide (keyS (enc vs x) = keyS (enc vs y))) vs 0]
  by_cases hx : x ∈ vs
  · rw [if_pos hx]
    have : vs.findIdx? (fun y => decide (keyS (enc vs x) = keyS (enc vs y))) = some (vs.idxOf x) := by
      rw [List.findIdx?_eq_some_iff_getElem]
      refine ⟨List.idxOf_lt_length_of_mem hx, by simp, ?_⟩
      intro j hj
      have hjl : j < vs.length := Nat.lt_trans hj (List.idxOf_lt_length_of_mem hx)
      simp only [decide_eq_true_eq, hkey _ (List.getElem_mem hjl)]
      intro e
      have := hcl.nodup.idxOf_getElem j hjl
      rw [← e] at this
      omega
    rw [this]
    simp [idxOf_get hx]
  · rw [if_neg hx]
    have : vs.findIdx? (fun y => decide (keyS (enc vs x) = keyS (enc vs y))) = none := by
      rw [List.findIdx?_eq_none_iff]
      intro y hy
      simp only [decide_eq_false_iff_not, hkey y hy]
      intro e
      exact hx (e ▸ hy)
    rw [this]
    rfl

theorem keyS_ne {vs : List Int} (hcl : Cl vs) (hlen : vs.length ≤ roomW) {x y : Int} (hx : Cov vs x) (hy : Cov vs y) (h : keyS (enc vs x) = keyS (enc vs y)) : x = y := by
  have hlt : vs.length ≤ 4294967296 := by unfold roomW at hlen; omega
  refine enc_inj hx (keyS_inj ?_ ?_ h)
  · intro t ht; have := enc_lt hx t ht; omega
  · intro t ht; have := enc_lt hy t ht; omega

theorem placesOf_apart {vs : List Int} (hcl : Cl vs) (hlen : vs.length ≤ roomW) : KeysApart (placesOf vs) := by
  unfold KeysApart placesOf
  rw [List.pairwise_map, List.pairwise_iff_getElem]
  intro i j hi hj hij
  simp only [List.length_zipIdx] at hi hj
  simp only [List.getElem_zipIdx]
  intro e
  have := keyS_ne hcl hlen (hcl.cov (List.getElem_mem hi)) (hcl.cov (List.getElem_mem hj)) e
  exact List.pairwise_iff_getElem.1 hcl.nodup i j hi hj hij this

theorem placesOf_push {vs : List Int} (hcl : Cl vs) {x : Int} (hc : Cov vs x) : placesOf (vs ++ [x]) = placesOf vs ++ [(keyS (enc vs x), (vs.length : Int))] := by
  unfold placesOf
  rw [List.zipIdx_append, List.map_append]
  congr 1
  · apply List.map_congr_left
    intro p hp
    have hm : p.1 ∈ vs := by
      have := List.mem_map_of_mem (f := Prod.fst) hp
      rwa [List.zipIdx_map_fst] at this
    rw [enc_prefix (List.prefix_append vs [x]) (hcl.cov hm)]
  · simp [enc_prefix (List.prefix_append vs [x]) hc]

end Go.Proofs.Ythmagdibjbadaaa

namespace Go.Proofs.Ythmagdibjbadaaa
open Go.RowKit

section
variable {P : Program} {ops : Array Oper} {rest : List Oper} {o : Oper} {a : Act} {Q : Exit → Act → World → Prop}

/-- what is grown lies where it lay, or is new -/
def NewOr (W : World) (v v' : Value) : Prop := v'.ownBlock = v.ownBlock ∨ ∃ k, v'.ownBlock = some k ∧ W.heap.size ≤ k

theorem NewOr.mono {W W1 : World} {v v' : Value} (h : NewOr W1 v v') (hs : W.heap.size ≤ W1.heap.size) : NewOr W v v' := by
  rcases h with h | ⟨k, h, h2⟩
  · exact .inl h
  · exact .inr ⟨k, h, Nat.le_trans hs h2⟩

/-- what is asked of an element type -/
structure ElemT (P : Program) (t e size : Nat) (z : Value) (bytes : Nat) : Prop where
  ht : P.underlying t = some (.slice e)
  info : (P.info? e).map (fun i => (i.zero, i.size, i.bytes)) = some (some z, size, bytes)
  hz : z.cells.size = size
  pos : 0 < size
  small : bytes ≤ 64

theorem grown_trans {w w1 w2 : World} {row : Option Nat} (h : w.grownBy w1 row) (k : w1.grownBy w2 row) : w.grownBy w2 row :=
  ⟨k.os.trans h.os, k.tape.trans h.tape, k.output.trans h.output, Nat.le_trans h.size k.size, fun i hi hn => (k.block i (Nat.lt_of_lt_of_le hi h.size) hn).trans (h.block i hi hn)⟩

/-- append(v, x..): x lies in a block that is known whole -/
theorem ap_blk {t e size bytes : Nat} {z : Value} (E : ElemT P t e size z bytes) {W : World} {B n m c : Nat} {v : Value} {xs : List Value} (s x : Operand) (hgd : o.guard = none)
    (ho : o.op = .call { callee := .builtin .append, args := #[s, x], argTypes := #[t, t] }) (hs : a.eval s = v) (hown : W.ownsRow B e size v n xs)
    {b : Nat} {off : Nat} (hx : a.eval x = .slice (some ⟨b, off, none⟩) m c) {news : List Value} (hl : news.length = m * size) (hr : Reads W b off news) (h1 : ∀ u ∈ news, u.oneCell' = true)
    (hn : n + m ≤ 1000000000) (hB : B ≤ W.heap.size)
    (h : ∀ v' w', w'.ownsRow B e size v' (n + m) (xs ++ news) → W.grownBy w' v.ownBlock → NewOr W v v' → wpList P ops Q rest (a.put o.dst v') w') : wpList P ops Q (o :: rest) a W := by
  obtain ⟨i0, hi, hzz⟩ := Option.map_eq_some_iff.1 E.info
  simp only [Prod.mk.injEq] at hzz
  obtain ⟨hz0, hz1, hz2⟩ := hzz
  have hsm := E.small
  have hmul : (n + m) * bytes ≤ 1000000000 * 64 := Nat.mul_le_mul hn E.small
  refine wpList_append_own_at W hgd s x t ho B e i0 z size bytes E.ht hi hz0 hz1 hz2 E.hz E.pos v n xs hs hown ⟨b, off, none⟩ m c news hx hl (fun j u hu => ?_) h1 (by unfold maxLen; omega) (by omega) hB ?_
  · have : (⟨b, off, none⟩ : Addr).add j = ⟨b, off + j, none⟩ := by unfold Addr.add; split <;> simp_all
    rw [this]; exact hr j u hu
  · intro v' w' h2 h3 _ h4
    refine h v' w' h2 h3 ?_
    rcases h4 with h4 | h4
    · exact .inl h4
    · exact .inr ⟨_, h4, Nat.le_refl _⟩

/-- append(v, x, y, ..): the literal has just been laid -/
theorem ap_lit {t e size bytes : Nat} {z : Value} (E : ElemT P t e size z bytes) {W : World} {B n m b : Nat} {v : Value} {xs : List Value} {news : Array Value} (s x : Operand) (hgd : o.guard = none)
    (ho : o.op = .call { callee := .builtin .append, args := #[s, x], argTypes := #[t, t] }) (hs : a.eval s = v) (hown : W.ownsRow B e size v n xs)
    (hx : a.eval x = .slice (some ⟨b, 0, none⟩) m m) (hb : b = W.heap.size) (hl : news.size = m * size) (h1 : ∀ u ∈ news.toList, u.oneCell' = true)
    (hn : n + m ≤ 1000000000) (hB : B ≤ W.heap.size)
    (h : ∀ v' w', w'.ownsRow B e size v' (n + m) (xs ++ news.toList) → W.grownBy w' v.ownBlock → NewOr W v v' → wpList P ops Q rest (a.put o.dst v') w') : wpList P ops Q (o :: rest) a (W.alloc (.cells news e)) := by
  subst hb
  refine ap_blk E s x hgd ho hs (hown.alloc _) hx (by simpa using hl) (fun j u hu => ?_) h1 hn (by simp; omega) fun v' w' h2 h3 h4 => h v' w' h2 (grown_trans (World.grownBy_alloc W _ _) h3) (h4.mono (by simp))
  rw [cell_of_blk (blk_alloc W _), Nat.zero_add]
  simpa using hu

theorem own_form {w : World} {B e size n : Nat} {v : Value} {xs : List Value} (h : w.ownsRow B e size v n xs) (hn : 0 < n) : ∃ g cap, v = .slice (some ⟨g, 0, none⟩) n cap := by
  rcases h.2 with ⟨_, h0⟩ | ⟨g, cap, cur, rfl, _⟩
  · omega
  · exact ⟨g, cap, rfl⟩

/-- the same, the value written out -/
theorem ap_litp {t e size bytes : Nat} {z : Value} (E : ElemT P t e size z bytes) {W : World} {B n m b : Nat} {v : Value} {xs : List Value} {news : Array Value} (s x : Operand) (hgd : o.guard = none)
    (ho : o.op = .call { callee := .builtin .append, args := #[s, x], argTypes := #[t, t] }) (hs : a.eval s = v) (hown : W.ownsRow B e size v n xs)
    (hx : a.eval x = .slice (some ⟨b, 0, none⟩) m m) (hb : b = W.heap.size) (hl : news.size = m * size) (hm : 0 < m) (h1 : ∀ u ∈ news.toList, u.oneCell' = true)
    (hn : n + m ≤ 1000000000) (hB : B ≤ W.heap.size)
    (h : ∀ g cap w', w'.ownsRow B e size (.slice (some ⟨g, 0, none⟩) (n + m) cap) (n + m) (xs ++ news.toList) → W.grownBy w' v.ownBlock → NewOr W v (.slice (some ⟨g, 0, none⟩) (n + m) cap) → wpList P ops Q rest (a.put o.dst (.slice (some ⟨g, 0, none⟩) (n + m) cap)) w') : wpList P ops Q (o :: rest) a (W.alloc (.cells news e)) :=
  ap_lit E s x hgd ho hs hown hx hb hl h1 hn hB fun v' w' h2 h3 h4 => by
    obtain ⟨g, cap, rfl⟩ := own_form h2 (by omega)
    exact h g cap w' h2 h3 h4

/-- append(v, x..): x is a slice without elements -/
theorem run_append_none {t e : TypeId} (ht : P.underlying t = some (.slice e)) (i : TypeInfo) (hi : P.info? e = some i) (w : World) (ty : TypeId) (A A' : Option Addr) (n c c' : Nat) (hc : n ≤ c) :
    (Builtin.append_ #[t, t] ty #[.slice A n c, .slice A' 0 c']).run P w = .ok (.slice A n c) w := by
  have hf : (Builtin.firstCells i.size 0 (.slice A' 0 c')).run P w = .ok #[] w := by
    cases A' <;> simp [Builtin.firstCells, loadCells, loadCellsFrom]
  cases A <;> simp [Builtin.append_, run_underlying ht, sizeOf, typeInfo, hi, Builtin.lenOf, hc, hf, storeCells]

theorem ap_none {t e size bytes : Nat} {z : Value} (E : ElemT P t e size z bytes) {W : World} {A A' : Option Addr} {n c c' : Nat} (s x : Operand) (hgd : o.guard = none)
    (ho : o.op = .call { callee := .builtin .append, args := #[s, x], argTypes := #[t, t] }) (hs : a.eval s = .slice A n c) (hc : n ≤ c)
    (hx : a.eval x = .slice A' 0 c') (h : wpList P ops Q rest (a.put o.dst (.slice A n c)) W) : wpList P ops Q (o :: rest) a W := by
  obtain ⟨i0, hi, _⟩ := Option.map_eq_some_iff.1 E.info
  refine wpList_plain hgd fun K hK => ?_
  unfold Oper.wp execOp
  simp only [ho, resolve, invoke, builtin, Sem.run_bind, Sem.run_pure, Result.andThen_ok, List.map_toArray, List.map_cons, List.map_nil, hs, hx, run_append_none E.ht i0 hi W o.type A A' n c c' hc]
  exact hK _ _ h

/-- make([]T, 0, c) -/
theorem run_mk0 {t e size bytes : Nat} {z : Value} (E : ElemT P t e size z bytes) (c : Nat) (hc : c ≤ 1000000000) (w : World) :
    (Instr.makeSlice t (.int .i64 0) (.int .i64 (c : Int))).run P w = .ok (.slice (some ⟨w.heap.size, 0, none⟩) 0 c) (w.alloc (.cells (madeCells z.cells (c * size)) e)) := by
  obtain ⟨i, hi, hzz⟩ := Option.map_eq_some_iff.1 E.info
  simp only [Prod.mk.injEq] at hzz
  obtain ⟨hz0, hz1, hz2⟩ := hzz
  have hb : (i.bytes : Int) * (c : Int) ≤ 281474976710656 := by
    have h1 := Nat.mul_le_mul E.small hc
    rw [hz2, ← Int.natCast_mul]; omega
  have := run_make (P := P) w t e i z E.ht hi hz0 .i64 .i64 0 c (Int.le_refl _) (by omega) hb (by omega)
  simpa [hz1] using this

/-- make([]T, n) -/
theorem run_mk {t e size bytes : Nat} {z : Value} (E : ElemT P t e size z bytes) (c : Nat) (hc : c ≤ 1000000000) (w : World) :
    (Instr.makeSlice t (.int .i64 (c : Int)) (.int .i64 (c : Int))).run P w = .ok (.slice (some ⟨w.heap.size, 0, none⟩) c c) (w.alloc (.cells (madeCells z.cells (c * size)) e)) := by
  obtain ⟨i, hi, hzz⟩ := Option.map_eq_some_iff.1 E.info
  simp only [Prod.mk.injEq] at hzz
  obtain ⟨hz0, hz1, hz2⟩ := hzz
  have hb : (i.bytes : Int) * (c : Int) ≤ 281474976710656 := by
    have h1 := Nat.mul_le_mul E.small hc
    rw [hz2, ← Int.natCast_mul]; omega
  have := run_make (P := P) w t e i z E.ht hi hz0 .i64 .i64 c c (by omega) (Int.le_refl _) hb (by omega)
  simpa [hz1] using this

end

theorem el_u8 : ElemT Try.prog 100 5 1 (.int .u8 0) 1 := ⟨Try.underlying100, by kernel_rfl, rfl, by decide, by decide⟩
theorem el_term : ElemT Try.prog 67 82 2 (.agg #[.bool false, .int .i64 0]) 16 := ⟨Try.underlying67, by kernel_rfl, rfl, by decide, by decide⟩
theorem el_terms : ElemT Try.prog 75 67 1 (.slice none 0 0) 24 := ⟨Try.underlying75, by kernel_rfl, rfl, by decide, by decide⟩
theorem el_int : ElemT Try.prog 54 3 1 (.int .i64 0) 8 := ⟨Try.underlying54, by kernel_rfl, rfl, by decide, by decide⟩

end Go.Proofs.Ythmagdibjbadaaa

namespace Go.Proofs.Ythmagdibjbadaaa
open Go.RowKit

theorem modq (n m : Int) (hm : 0 < m) (h2 : m ≤ 60) : Int.tmod (wrap64 (Int.tmod n m + m)) m = n % m := by
  have h1 := Int.tmod_lt_of_pos n hm
  have h3 := Int.lt_tmod_of_pos n hm
  have hw : wrap64 (Int.tmod n m + m) = Int.tmod n m + m := by unfold wrap64; omega
  rw [hw, Int.tmod_eq_emod_of_nonneg (by omega), Int.add_emod_right]
  rw [Int.tmod_eq_emod]
  split
  · simp
  · have : ((m.natAbs : Nat) : Int) = m := by omega
    rw [this, Int.sub_emod_right, Int.emod_emod_of_dvd _ (Int.dvd_refl m)]

theorem modq_range (n m : Int) (hm : 0 < m) : 0 ≤ n % m ∧ n % m < m := ⟨Int.emod_nonneg _ (by omega), Int.emod_lt_of_pos _ hm⟩

set_option maxRecDepth 100000 in
theorem modulo_any (n m : Int) (hm : 0 < m) (h2 : m ≤ 60) (w : World) : Calls Try.prog 18 #[.int .i64 n, .int .i64 m] w fun e w' => e = .returned (.int .i64 (n % m)) ∧ w' = w := by
  have h0 : ¬ m = 0 := by omega
  go_enter Try.func18, Try.ntmps18
  go_wp2
  go_ret
  exact ⟨by rw [← modq n m hm h2]; rfl, rfl⟩

set_option maxRecDepth 100000 in
theorem rest_any (n m : Int) (hm : 0 < m) (h2 : m ≤ 60) (w : World) : Calls Try.prog 26 #[.int .i64 n, .int .i64 m] w fun e w' => e = .returned (.int .i64 (n % m)) ∧ w' = w := by
  have h0 : ¬ m = 0 := by omega
  go_enter Try.func26, Try.ntmps26
  go_wp2
  go_ret
  exact ⟨by rw [← modq n m hm h2]; rfl, rfl⟩

abbrev St := Int × Int × Int
def stv (s : St) : Value := .agg #[.int .i64 s.1, .int .i64 s.2.1, .int .i64 s.2.2]
/-- the first state -/
def fst (m : Int) (s : St) : St := (s.1 % m, s.2.1 % m, s.2.2 % m)

set_option maxRecDepth 100000 in
theorem first_any (s : St) (m : Int) (hm : 0 < m) (h2 : m ≤ 60) (w : World) : Calls Try.prog 15 #[stv s, .int .i64 m] w fun e w' => e = .returned (stv (fst m s)) ∧ Below w.heap.size w w' := by
  obtain ⟨a, b, c⟩ := s
  have hr := fun n w => rest_any n m hm h2 w
  unfold stv fst
  go_enter Try.func15, Try.ntmps15
  go_wp2_with fail
  refine wp_loop_rounds 4 ?_
  rw [rounds_succ]
  go_wp2_with (go_at_call 26; go_must (refine (hr _ _).mono ?_; rintro e w1 ⟨rfl, rfl⟩))
  rw [rounds_succ]
  go_wp2_with (go_at_call 26; go_must (refine (hr _ _).mono ?_; rintro e w1 ⟨rfl, rfl⟩))
  rw [rounds_succ]
  go_wp2_with (go_at_call 26; go_must (refine (hr _ _).mono ?_; rintro e w1 ⟨rfl, rfl⟩))
  rw [rounds_succ]
  go_wp2_with fail
  refine bodyPost_ret (v := .agg #[.int .i64 (a % m), .int .i64 (b % m), .int .i64 (c % m)]) (by simp [results, Try.results15, go_sem]) rfl ⟨rfl, ?_⟩
  exact ((((Below.refl _ _).alloc (Nat.le_refl _) _).alloc (by simp) _).alloc (by simp; omega) _)

/-- the next state: t are the twelve numbers of a turn -/
def rowq (t : Nat → Int) (m : Int) (i : Nat) (s : St) : Int := (t (4 * i + 3) % m + t (4 * i) % m * s.1 + t (4 * i + 1) % m * s.2.1 + t (4 * i + 2) % m * s.2.2) % m
def nx (t : Nat → Int) (m : Int) (s : St) : St := (rowq t m 0 s, rowq t m 1 s, rowq t m 2 s)
def OkSt (m : Int) (s : St) : Prop := (0 ≤ s.1 ∧ s.1 < m) ∧ (0 ≤ s.2.1 ∧ s.2.1 < m) ∧ (0 ≤ s.2.2 ∧ s.2.2 < m)
def turnv (t : Nat → Int) : Value := .agg #[.int .i64 (t 0), .int .i64 (t 1), .int .i64 (t 2), .int .i64 (t 3), .int .i64 (t 4), .int .i64 (t 5), .int .i64 (t 6), .int .i64 (t 7), .int .i64 (t 8), .int .i64 (t 9), .int .i64 (t 10), .int .i64 (t 11)]

theorem fst_ok {m : Int} (hm : 0 < m) (s : St) : OkSt m (fst m s) := ⟨modq_range _ _ hm, modq_range _ _ hm, modq_range _ _ hm⟩
theorem nx_ok {m : Int} (hm : 0 < m) (t : Nat → Int) (s : St) : OkSt m (nx t m s) := ⟨modq_range _ _ hm, modq_range _ _ hm, modq_range _ _ hm⟩

theorem mulq {p a m : Int} (hp : 0 ≤ p) (hp2 : p < m) (ha : 0 ≤ a) (ha2 : a < m) (h2 : m ≤ 60) : 0 ≤ p * a ∧ p * a ≤ 3600 := by
  refine ⟨Int.mul_nonneg hp ha, ?_⟩
  have := Int.mul_le_mul (show p ≤ 60 by omega) (show a ≤ 60 by omega) ha (by omega)
  omega

theorem rowsum (x0 x1 x2 x3 : Int) {a b c m : Int} (hm : 0 < m) (h2 : m ≤ 60) (hs : OkSt m (a, b, c)) :
    Int.tmod (wrap64 (wrap64 (wrap64 (x3 % m + wrap64 (x0 % m * a)) + wrap64 (x1 % m * b)) + wrap64 (x2 % m * c))) m = (x3 % m + x0 % m * a + x1 % m * b + x2 % m * c) % m := by
  obtain ⟨⟨a1, a2⟩, ⟨b1, b2⟩, c1, c2⟩ := hs
  have q0 := modq_range x0 m hm
  have q1 := modq_range x1 m hm
  have q2 := modq_range x2 m hm
  have q3 := modq_range x3 m hm
  have r0 := mulq q0.1 q0.2 a1 a2 h2
  have r1 := mulq q1.1 q1.2 b1 b2 h2
  have r2 := mulq q2.1 q2.2 c1 c2 h2
  simp only at r0 r1 r2
  generalize x0 % m * a = y0 at *
  generalize x1 % m * b = y1 at *
  generalize x2 % m * c = y2 at *
  generalize x3 % m = y3 at *
  have e : wrap64 (wrap64 (wrap64 (y3 + wrap64 y0) + wrap64 y1) + wrap64 y2) = y3 + y0 + y1 + y2 := by unfold wrap64; omega
  rw [e, Int.tmod_eq_emod_of_nonneg (by omega)]

set_option maxRecDepth 100000 in
set_option maxHeartbeats 4000000 in
theorem next04_any (t : Nat → Int) (s : St) (m : Int) (hm : 0 < m) (h2 : m ≤ 60) (hs : OkSt m s) (w : World) : Calls Try.prog 17 #[turnv t, stv s, .int .i64 m] w fun e w' => e = .returned (stv (nx t m s)) ∧ Below w.heap.size w w' := by
  obtain ⟨a, b, c⟩ := s
  obtain ⟨⟨a1, a2⟩, ⟨b1, b2⟩, c1, c2⟩ := hs
  simp only at a1 a2 b1 b2 c1 c2
  have hr := fun n w => rest_any n m hm h2 w
  have hmz : ¬ m = 0 := by omega
  unfold stv turnv
  go_enter Try.func17, Try.ntmps17
  go_wp2_with fail
  refine wp_loop_rounds 4 ?_
  rw [rounds_succ]
  go_wp2_with (go_at_call 26; go_must (refine (hr _ _).mono ?_; rintro e w1 ⟨rfl, rfl⟩))
  refine wp_loop_rounds 4 ?_
  rw [rounds_succ]
  go_wp2_with fail
  go_region_held3 (fun w' => w'.cell? ⟨w.heap.size, 0, none⟩ = some (.int .i64 (t 0)) ∧ w'.cell? ⟨w.heap.size + 1, 0, none⟩ = some (.int .i64 a)) (first | (simp [go_sem]; done) | (go_simp; done)) (first | (go_at_call 26; refine (hr _ _).mono ?_; rintro e w1 ⟨rfl, rfl⟩))
  go_wp2_with fail
  rw [rounds_succ]
  go_wp2_with fail
  go_region_held3 (fun w' => w'.cell? ⟨w.heap.size, 1, none⟩ = some (.int .i64 (t 1)) ∧ w'.cell? ⟨w.heap.size + 1, 1, none⟩ = some (.int .i64 b)) (first | (simp [go_sem]; done) | (go_simp; done)) (first | (go_at_call 26; refine (hr _ _).mono ?_; rintro e w1 ⟨rfl, rfl⟩))
  go_wp2_with fail
  rw [rounds_succ]
  go_wp2_with fail
  go_region_held3 (fun w' => w'.cell? ⟨w.heap.size, 2, none⟩ = some (.int .i64 (t 2)) ∧ w'.cell? ⟨w.heap.size + 1, 2, none⟩ = some (.int .i64 c)) (first | (simp [go_sem]; done) | (go_simp; done)) (first | (go_at_call 26; refine (hr _ _).mono ?_; rintro e w1 ⟨rfl, rfl⟩))
  go_wp2_with fail
  rw [rounds_succ]
  go_wp2_with fail
  rw [rounds_succ]
  go_wp2_with (go_at_call 26; go_must (refine (hr _ _).mono ?_; rintro e w1 ⟨rfl, rfl⟩))
  refine wp_loop_rounds 4 ?_
  rw [rounds_succ]
  go_wp2_with fail
  go_region_held3 (fun w' => w'.cell? ⟨w.heap.size, 4, none⟩ = some (.int .i64 (t 4)) ∧ w'.cell? ⟨w.heap.size + 1, 0, none⟩ = some (.int .i64 a)) (first | (simp [go_sem]; done) | (go_simp; done)) (first | (go_at_call 26; refine (hr _ _).mono ?_; rintro e w1 ⟨rfl, rfl⟩))
  go_wp2_with fail
  rw [rounds_succ]
  go_wp2_with fail
  go_region_held3 (fun w' => w'.cell? ⟨w.heap.size, 5, none⟩ = some (.int .i64 (t 5)) ∧ w'.cell? ⟨w.heap.size + 1, 1, none⟩ = some (.int .i64 b)) (first | (simp [go_sem]; done) | (go_simp; done)) (first | (go_at_call 26; refine (hr _ _).mono ?_; rintro e w1 ⟨rfl, rfl⟩))
  go_wp2_with fail
  rw [rounds_succ]
  go_wp2_with fail
  go_region_held3 (fun w' => w'.cell? ⟨w.heap.size, 6, none⟩ = some (.int .i64 (t 6)) ∧ w'.cell? ⟨w.heap.size + 1, 2, none⟩ = some (.int .i64 c)) (first | (simp [go_sem]; done) | (go_simp; done)) (first | (go_at_call 26; refine (hr _ _).mono ?_; rintro e w1 ⟨rfl, rfl⟩))
  go_wp2_with fail
  rw [rounds_succ]
  go_wp2_with fail
  rw [rounds_succ]
  go_wp2_with (go_at_call 26; go_must (refine (hr _ _).mono ?_; rintro e w1 ⟨rfl, rfl⟩))
  refine wp_loop_rounds 4 ?_
  rw [rounds_succ]
  go_wp2_with fail
  go_region_held3 (fun w' => w'.cell? ⟨w.heap.size, 8, none⟩ = some (.int .i64 (t 8)) ∧ w'.cell? ⟨w.heap.size + 1, 0, none⟩ = some (.int .i64 a)) (first | (simp [go_sem]; done) | (go_simp; done)) (first | (go_at_call 26; refine (hr _ _).mono ?_; rintro e w1 ⟨rfl, rfl⟩))
  go_wp2_with fail
  rw [rounds_succ]
  go_wp2_with fail
  go_region_held3 (fun w' => w'.cell? ⟨w.heap.size, 9, none⟩ = some (.int .i64 (t 9)) ∧ w'.cell? ⟨w.heap.size + 1, 1, none⟩ = some (.int .i64 b)) (first | (simp [go_sem]; done) | (go_simp; done)) (first | (go_at_call 26; refine (hr _ _).mono ?_; rintro e w1 ⟨rfl, rfl⟩))
  go_wp2_with fail
  rw [rounds_succ]
  go_wp2_with fail
  go_region_held3 (fun w' => w'.cell? ⟨w.heap.size, 10, none⟩ = some (.int .i64 (t 10)) ∧ w'.cell? ⟨w.heap.size + 1, 2, none⟩ = some (.int .i64 c)) (first | (simp [go_sem]; done) | (go_simp; done)) (first | (go_at_call 26; refine (hr _ _).mono ?_; rintro e w1 ⟨rfl, rfl⟩))
  go_wp2_with fail
  rw [rounds_succ]
  go_wp2_with fail
  rw [rounds_succ]
  go_wp2_with fail
  have hb : Below w.heap.size w ((((w.alloc (.cells #[.int .i64 (t 0), .int .i64 (t 1), .int .i64 (t 2), .int .i64 (t 3), .int .i64 (t 4), .int .i64 (t 5), .int .i64 (t 6), .int .i64 (t 7), .int .i64 (t 8), .int .i64 (t 9), .int .i64 (t 10), .int .i64 (t 11)] 25)).alloc (.cells #[.int .i64 a, .int .i64 b, .int .i64 c] 26)).alloc (.cells #[.int .i64 (rowq t m 0 (a, b, c)), .int .i64 (rowq t m 1 (a, b, c)), .int .i64 (rowq t m 2 (a, b, c))] 26)).alloc (.cells #[.int .i64 (rowq t m 0 (a, b, c)), .int .i64 (rowq t m 1 (a, b, c)), .int .i64 (rowq t m 2 (a, b, c))] 26)) :=
    ((((Below.refl _ _).alloc (Nat.le_refl _) _).alloc (by simp) _).alloc (by simp; omega) _).alloc (by simp; omega) _
  have hok : OkSt m (a, b, c) := ⟨⟨a1, a2⟩, ⟨b1, b2⟩, c1, c2⟩
  simp only [rowsum _ _ _ _ hm h2 hok]
  refine bodyPost_ret (v := stv (nx t m (a, b, c))) (by simp [results, Try.results17, go_sem, stv, nx, rowq]) rfl ⟨rfl, ?_⟩
  exact ⟨hb.os, hb.tape, hb.output, hb.size, hb.block⟩

end Go.Proofs.Ythmagdibjbadaaa

namespace Go.Proofs.Ythmagdibjbadaaa
open Go.RowKit

theorem below_st {n : Nat} {w W : World} (h : Below n w W) (o : Obj) (hn : n ≤ w.heap.size := by exact Nat.le_refl _) : Below n w (W.alloc o) := h.alloc (Nat.le_trans hn h.size) o
theorem below_sd {n : Nat} {w W : World} (h : Below n w W) : Below n w W.drew := ⟨h.os, h.tape, h.output, h.size, h.block⟩

theorem alloc_cell {w : World} {b i : Nat} {v : Value} (h : w.cell? ⟨b, i, none⟩ = some v) (o : Obj) : (w.alloc o).cell? ⟨b, i, none⟩ = some v := (cell_same (Below.heap_alloc w o b (lt_of_cell h)) i).trans h

theorem run_index_row (x0 x1 x2 x3 x4 x5 x6 x7 x8 x9 x10 x11 : Int) (W : World) :
    (Instr.index 23 (.agg #[.int .i64 x0, .int .i64 x1, .int .i64 x2, .int .i64 x3, .int .i64 x4, .int .i64 x5, .int .i64 x6, .int .i64 x7, .int .i64 x8, .int .i64 x9, .int .i64 x10, .int .i64 x11]) (.int .i64 0)).run Try.prog W = .ok (.agg #[.int .i64 x0, .int .i64 x1, .int .i64 x2, .int .i64 x3]) W ∧
    (Instr.index 23 (.agg #[.int .i64 x0, .int .i64 x1, .int .i64 x2, .int .i64 x3, .int .i64 x4, .int .i64 x5, .int .i64 x6, .int .i64 x7, .int .i64 x8, .int .i64 x9, .int .i64 x10, .int .i64 x11]) (.int .i64 1)).run Try.prog W = .ok (.agg #[.int .i64 x4, .int .i64 x5, .int .i64 x6, .int .i64 x7]) W ∧
    (Instr.index 23 (.agg #[.int .i64 x0, .int .i64 x1, .int .i64 x2, .int .i64 x3, .int .i64 x4, .int .i64 x5, .int .i64 x6, .int .i64 x7, .int .i64 x8, .int .i64 x9, .int .i64 x10, .int .i64 x11]) (.int .i64 2)).run Try.prog W = .ok (.agg #[.int .i64 x8, .int .i64 x9, .int .i64 x10, .int .i64 x11]) W :=
  ⟨by kernel_rfl, by kernel_rfl, by kernel_rfl⟩

set_option maxRecDepth 100000 in
set_option maxHeartbeats 4000000 in
/-- the closure that turns a state: its turn lies in block bt, its modulus in block bm -/
theorem turningF_any (t : Nat → Int) (s : St) (m : Int) (hm : 0 < m) (h2 : m ≤ 60) (hs : OkSt m s) {w : World} {bt bm : Nat} (ht : w.heap[bt]? = some (.cells #[.int .i64 (t 0), .int .i64 (t 1), .int .i64 (t 2), .int .i64 (t 3), .int .i64 (t 4), .int .i64 (t 5), .int .i64 (t 6), .int .i64 (t 7), .int .i64 (t 8), .int .i64 (t 9), .int .i64 (t 10), .int .i64 (t 11)] 25 (0, 0)))
    (hbm : w.heap[bm]? = some (.cells #[.int .i64 m] 3 (0, 0))) :
    Calls Try.prog 19 #[stv s, .pointer (some ⟨bt, 0, none⟩), .pointer (some ⟨bm, 0, none⟩)] w fun e w' => e = .returned (stv (nx t m s)) ∧ Below w.heap.size w w' := by
  obtain ⟨a, b, c⟩ := s
  have hok : OkSt m (a, b, c) := hs
  have HOK := Sealed.mk hok; clear hok
  obtain ⟨⟨a1, a2⟩, ⟨b1, b2⟩, c1, c2⟩ := hs
  simp only at a1 a2 b1 b2 c1 c2
  have hr := fun n w => modulo_any n m hm h2 w
  have hmz : ¬ m = 0 := by omega
  have kt : ∀ i, w.cell? ⟨bt, i, none⟩ = (#[Value.int .i64 (t 0), .int .i64 (t 1), .int .i64 (t 2), .int .i64 (t 3), .int .i64 (t 4), .int .i64 (t 5), .int .i64 (t 6), .int .i64 (t 7), .int .i64 (t 8), .int .i64 (t 9), .int .i64 (t 10), .int .i64 (t 11)] : Array Value)[i]? := fun i => cell_of_blk ht i
  have km : w.cell? ⟨bm, 0, none⟩ = some (.int .i64 m) := by rw [cell_of_blk hbm]; rfl
  have k0 := kt 0
  have k1 := kt 1
  have k2 := kt 2
  have k3 := kt 3
  have k4 := kt 4
  have k5 := kt 5
  have k6 := kt 6
  have k7 := kt 7
  have k8 := kt 8
  have k9 := kt 9
  have k10 := kt 10
  have k11 := kt 11
  simp at k0 k1 k2 k3 k4 k5 k6 k7 k8 k9 k10 k11
  have lt1 := lt_of_blk ht
  have lt2 := lt_of_blk hbm
  clear kt ht hbm lt1 lt2
  have j0 := fun o1 o2 o3 => alloc_cell (alloc_cell (alloc_cell k0 o1) o2) o3
  have j1 := fun o1 o2 o3 => alloc_cell (alloc_cell (alloc_cell k1 o1) o2) o3
  have j2 := fun o1 o2 o3 => alloc_cell (alloc_cell (alloc_cell k2 o1) o2) o3
  have j3 := fun o1 o2 o3 => alloc_cell (alloc_cell (alloc_cell k3 o1) o2) o3
  have j4 := fun o1 o2 o3 => alloc_cell (alloc_cell (alloc_cell k4 o1) o2) o3
  have j5 := fun o1 o2 o3 => alloc_cell (alloc_cell (alloc_cell k5 o1) o2) o3
  have j6 := fun o1 o2 o3 => alloc_cell (alloc_cell (alloc_cell k6 o1) o2) o3
  have j7 := fun o1 o2 o3 => alloc_cell (alloc_cell (alloc_cell k7 o1) o2) o3
  have j8 := fun o1 o2 o3 => alloc_cell (alloc_cell (alloc_cell k8 o1) o2) o3
  have j9 := fun o1 o2 o3 => alloc_cell (alloc_cell (alloc_cell k9 o1) o2) o3
  have j10 := fun o1 o2 o3 => alloc_cell (alloc_cell (alloc_cell k10 o1) o2) o3
  have j11 := fun o1 o2 o3 => alloc_cell (alloc_cell (alloc_cell k11 o1) o2) o3
  have m3 := fun o1 o2 o3 => alloc_cell (alloc_cell (alloc_cell km o1) o2) o3
  have m4 := fun o1 o2 o3 o4 => alloc_cell (m3 o1 o2 o3) o4
  have m5 := fun o1 o2 o3 o4 o5 => alloc_cell (m4 o1 o2 o3 o4) o5
  have m6 := fun o1 o2 o3 o4 o5 o6 => alloc_cell (m5 o1 o2 o3 o4 o5) o6
  clear k0 k1 k2 k3 k4 k5 k6 k7 k8 k9 k10 k11 km
  unfold stv
  go_enter Try.func19, Try.ntmps19
  go_wp2_with fail
  clear j0 j1 j2 j3 j4 j5 j6 j7 j8 j9 j10 j11
  have x0 := fun W => (run_index_row (t 0) (t 1) (t 2) (t 3) (t 4) (t 5) (t 6) (t 7) (t 8) (t 9) (t 10) (t 11) W).1
  have x1 := fun W => (run_index_row (t 0) (t 1) (t 2) (t 3) (t 4) (t 5) (t 6) (t 7) (t 8) (t 9) (t 10) (t 11) W).2.1
  have x2 := fun W => (run_index_row (t 0) (t 1) (t 2) (t 3) (t 4) (t 5) (t 6) (t 7) (t 8) (t 9) (t 10) (t 11) W).2.2
  refine wp_loop_rounds 4 ?_
  rw [rounds_succ]
  go_wp2_with (go_at_call 18; go_must (refine (hr _ _).mono ?_; rintro e w1 ⟨rfl, rfl⟩))
  refine wp_loop_rounds 4 ?_
  rw [rounds_succ]
  go_wp2_with fail
  go_region_held3 (fun w' => w'.cell? ⟨bm, 0, none⟩ = some (.int .i64 m) ∧ w'.cell? ⟨w.heap.size + 1 + 1 + 1, 0, none⟩ = some (.int .i64 (t 0)) ∧ w'.cell? ⟨w.heap.size, 0, none⟩ = some (.int .i64 a)) (first | (simp [go_sem, m4, m5, m6]; done) | (go_simp; done)) (first | (go_at_call 18; refine (hr _ _).mono ?_; rintro e w1 ⟨rfl, rfl⟩))
  go_wp2_with fail
  rw [rounds_succ]
  go_wp2_with fail
  go_region_held3 (fun w' => w'.cell? ⟨bm, 0, none⟩ = some (.int .i64 m) ∧ w'.cell? ⟨w.heap.size + 1 + 1 + 1, 1, none⟩ = some (.int .i64 (t 1)) ∧ w'.cell? ⟨w.heap.size, 1, none⟩ = some (.int .i64 b)) (first | (simp [go_sem, m4, m5, m6]; done) | (go_simp; done)) (first | (go_at_call 18; refine (hr _ _).mono ?_; rintro e w1 ⟨rfl, rfl⟩))
  go_wp2_with fail
  rw [rounds_succ]
  go_wp2_with fail
  go_region_held3 (fun w' => w'.cell? ⟨bm, 0, none⟩ = some (.int .i64 m) ∧ w'.cell? ⟨w.heap.size + 1 + 1 + 1, 2, none⟩ = some (.int .i64 (t 2)) ∧ w'.cell? ⟨w.heap.size, 2, none⟩ = some (.int .i64 c)) (first | (simp [go_sem, m4, m5, m6]; done) | (go_simp; done)) (first | (go_at_call 18; refine (hr _ _).mono ?_; rintro e w1 ⟨rfl, rfl⟩))
  go_wp2_with fail
  rw [rounds_succ]
  go_wp2_with fail
  rw [rounds_succ]
  go_wp2_with (go_at_call 18; go_must (refine (hr _ _).mono ?_; rintro e w1 ⟨rfl, rfl⟩))
  refine wp_loop_rounds 4 ?_
  rw [rounds_succ]
  go_wp2_with fail
  go_region_held3 (fun w' => w'.cell? ⟨bm, 0, none⟩ = some (.int .i64 m) ∧ w'.cell? ⟨w.heap.size + 1 + 1 + 1 + 1, 0, none⟩ = some (.int .i64 (t 4)) ∧ w'.cell? ⟨w.heap.size, 0, none⟩ = some (.int .i64 a)) (first | (simp [go_sem, m4, m5, m6]; done) | (go_simp; done)) (first | (go_at_call 18; refine (hr _ _).mono ?_; rintro e w1 ⟨rfl, rfl⟩))
  go_wp2_with fail
  rw [rounds_succ]
  go_wp2_with fail
  go_region_held3 (fun w' => w'.cell? ⟨bm, 0, none⟩ = some (.int .i64 m) ∧ w'.cell? ⟨w.heap.size + 1 + 1 + 1 + 1, 1, none⟩ = some (.int .i64 (t 5)) ∧ w'.cell? ⟨w.heap.size, 1, none⟩ = some (.int .i64 b)) (first | (simp [go_sem, m4, m5, m6]; done) | (go_simp; done)) (first | (go_at_call 18; refine (hr _ _).mono ?_; rintro e w1 ⟨rfl, rfl⟩))
  go_wp2_with fail
  rw [rounds_succ]
  go_wp2_with fail
  go_region_held3 (fun w' => w'.cell? ⟨bm, 0, none⟩ = some (.int .i64 m) ∧ w'.cell? ⟨w.heap.size + 1 + 1 + 1 + 1, 2, none⟩ = some (.int .i64 (t 6)) ∧ w'.cell? ⟨w.heap.size, 2, none⟩ = some (.int .i64 c)) (first | (simp [go_sem, m4, m5, m6]; done) | (go_simp; done)) (first | (go_at_call 18; refine (hr _ _).mono ?_; rintro e w1 ⟨rfl, rfl⟩))
  go_wp2_with fail
  rw [rounds_succ]
  go_wp2_with fail
  rw [rounds_succ]
  go_wp2_with (go_at_call 18; go_must (refine (hr _ _).mono ?_; rintro e w1 ⟨rfl, rfl⟩))
  refine wp_loop_rounds 4 ?_
  rw [rounds_succ]
  go_wp2_with fail
  go_region_held3 (fun w' => w'.cell? ⟨bm, 0, none⟩ = some (.int .i64 m) ∧ w'.cell? ⟨w.heap.size + 1 + 1 + 1 + 1 + 1, 0, none⟩ = some (.int .i64 (t 8)) ∧ w'.cell? ⟨w.heap.size, 0, none⟩ = some (.int .i64 a)) (first | (simp [go_sem, m4, m5, m6]; done) | (go_simp; done)) (first | (go_at_call 18; refine (hr _ _).mono ?_; rintro e w1 ⟨rfl, rfl⟩))
  go_wp2_with fail
  rw [rounds_succ]
  go_wp2_with fail
  go_region_held3 (fun w' => w'.cell? ⟨bm, 0, none⟩ = some (.int .i64 m) ∧ w'.cell? ⟨w.heap.size + 1 + 1 + 1 + 1 + 1, 1, none⟩ = some (.int .i64 (t 9)) ∧ w'.cell? ⟨w.heap.size, 1, none⟩ = some (.int .i64 b)) (first | (simp [go_sem, m4, m5, m6]; done) | (go_simp; done)) (first | (go_at_call 18; refine (hr _ _).mono ?_; rintro e w1 ⟨rfl, rfl⟩))
  go_wp2_with fail
  rw [rounds_succ]
  go_wp2_with fail
  go_region_held3 (fun w' => w'.cell? ⟨bm, 0, none⟩ = some (.int .i64 m) ∧ w'.cell? ⟨w.heap.size + 1 + 1 + 1 + 1 + 1, 2, none⟩ = some (.int .i64 (t 10)) ∧ w'.cell? ⟨w.heap.size, 2, none⟩ = some (.int .i64 c)) (first | (simp [go_sem, m4, m5, m6]; done) | (go_simp; done)) (first | (go_at_call 18; refine (hr _ _).mono ?_; rintro e w1 ⟨rfl, rfl⟩))
  go_wp2_with fail
  rw [rounds_succ]
  go_wp2_with fail
  rw [rounds_succ]
  go_wp2_with fail
  simp only [rowsum _ _ _ _ hm h2 HOK.out]
  refine bodyPost_ret (v := stv (nx t m (a, b, c))) (by simp [results, Try.results19, go_sem, stv, nx, rowq]) rfl ⟨rfl, ?_⟩
  repeat (first | exact Below.refl _ _ | refine below_st ?_ _ | refine below_sd ?_)

/-- the twelve cells of a turn -/
def turnCells (t : Nat → Int) : Array Value := #[.int .i64 (t 0), .int .i64 (t 1), .int .i64 (t 2), .int .i64 (t 3), .int .i64 (t 4), .int .i64 (t 5), .int .i64 (t 6), .int .i64 (t 7), .int .i64 (t 8), .int .i64 (t 9), .int .i64 (t 10), .int .i64 (t 11)]

/-- what turning hands back: the closure's two blocks -/
structure TurnFn (w : World) (f : Value) (t : Nat → Int) (m : Int) : Prop where
  shape : ∃ bt bm, f = .func (.func 19) #[] #[.pointer (some ⟨bt, 0, none⟩), .pointer (some ⟨bm, 0, none⟩)] ∧ w.heap[bt]? = some (.cells (turnCells t) 25 (0, 0)) ∧ w.heap[bm]? = some (.cells #[.int .i64 m] 3 (0, 0))

set_option maxRecDepth 100000 in
set_option maxHeartbeats 4000000 in
theorem turning_bad (t : Nat → Int) (s : St) (m : Int) (hm : m < 1 ∨ 60 < m) (w : World) : Calls Try.prog 9 #[turnv t, stv s, .int .i64 m] w fun e w' => e = .returned (.tuple #[.agg #[.int .i64 0, .int .i64 0, .int .i64 0], .nilFunc, .bool false]) ∧ Below w.heap.size w w' := by
  obtain ⟨a, b, c⟩ := s
  unfold turnv stv
  by_cases h1 : m < 1
  · go_enter Try.func9, Try.ntmps9
    go_wp2_with fail
    refine bodyPost_ret (v := .tuple #[.agg #[.int .i64 0, .int .i64 0, .int .i64 0], .nilFunc, .bool false]) (by simp [results, Try.results9, go_sem]) rfl ?_
    refine ⟨rfl, ?_⟩
    repeat (first | exact Below.refl _ _ | refine below_st ?_ _ | refine below_sd ?_)
  · have h3 : 60 < m := by omega
    have h4 : decide (60 < m) = true := by simp [h3]
    clear hm
    go_enter Try.func9, Try.ntmps9
    go_wp2_with fail
    refine bodyPost_ret (v := .tuple #[.agg #[.int .i64 0, .int .i64 0, .int .i64 0], .nilFunc, .bool false]) (by simp [results, Try.results9, go_sem]) rfl ?_
    refine ⟨rfl, ?_⟩
    repeat (first | exact Below.refl _ _ | refine below_st ?_ _ | refine below_sd ?_)

set_option maxRecDepth 100000 in
set_option maxHeartbeats 4000000 in
theorem turning_any (t : Nat → Int) (s : St) (m : Int) (hm : 1 ≤ m) (h2 : m ≤ 60) (w : World) : Calls Try.prog 9 #[turnv t, stv s, .int .i64 m] w fun e w' => ∃ f, e = .returned (.tuple #[stv (fst m s), f, .bool true]) ∧ Below w.heap.size w w' ∧ TurnFn w' f t m := by
  obtain ⟨a, b, c⟩ := s
  have hr := fun n w => modulo_any n m (by omega) h2 w
  unfold turnv stv
  go_enter Try.func9, Try.ntmps9
  go_wp2_with fail
  refine wp_loop_rounds 4 ?_
  rw [rounds_succ]
  go_wp2_with fail
  go_region_held3 (fun w' => w'.cell? ⟨w.heap.size + 1, 0, none⟩ = some (.int .i64 a) ∧ w'.cell? ⟨w.heap.size + 1 + 1, 0, none⟩ = some (.int .i64 m)) (first | (simp [go_sem]; done) | (go_simp; done)) (first | (go_at_call 18; refine (hr _ _).mono ?_; rintro e w1 ⟨rfl, rfl⟩))
  go_wp2_with fail
  rw [rounds_succ]
  go_wp2_with fail
  go_region_held3 (fun w' => w'.cell? ⟨w.heap.size + 1, 1, none⟩ = some (.int .i64 b) ∧ w'.cell? ⟨w.heap.size + 1 + 1, 0, none⟩ = some (.int .i64 m)) (first | (simp [go_sem]; done) | (go_simp; done)) (first | (go_at_call 18; refine (hr _ _).mono ?_; rintro e w1 ⟨rfl, rfl⟩))
  go_wp2_with fail
  rw [rounds_succ]
  go_wp2_with fail
  go_region_held3 (fun w' => w'.cell? ⟨w.heap.size + 1, 2, none⟩ = some (.int .i64 c) ∧ w'.cell? ⟨w.heap.size + 1 + 1, 0, none⟩ = some (.int .i64 m)) (first | (simp [go_sem]; done) | (go_simp; done)) (first | (go_at_call 18; refine (hr _ _).mono ?_; rintro e w1 ⟨rfl, rfl⟩))
  go_wp2_with fail
  rw [rounds_succ]
  go_wp2_with fail
  refine bodyPost_ret (v := .tuple #[.agg #[.int .i64 (a % m), .int .i64 (b % m), .int .i64 (c % m)], .func (.func 19) #[] #[.pointer (some ⟨w.heap.size, 0, none⟩), .pointer (some ⟨w.heap.size + 1 + 1, 0, none⟩)], .bool true]) (by simp [results, Try.results9, go_sem]) rfl ?_
  have hb : Below w.heap.size w (((((w.alloc (.cells (turnCells t) 25)).alloc (.cells #[.int .i64 a, .int .i64 b, .int .i64 c] 26)).alloc (.cells #[.int .i64 m] 3)).alloc (.cells #[.int .i64 (a % m), .int .i64 (b % m), .int .i64 (c % m)] 26)).drew.drew.drew) := by
    repeat (first | exact Below.refl _ _ | refine below_st ?_ _ | refine below_sd ?_)
  refine ⟨_, rfl, hb, ⟨_, _, rfl, ?_, ?_⟩⟩
  · exact blk_alloc_old (blk_alloc_old (blk_alloc_old (blk_alloc w _) _) _) _
  · have := blk_alloc_old (blk_alloc ((w.alloc (.cells (turnCells t) 25)).alloc (.cells #[.int .i64 a, .int .i64 b, .int .i64 c] 26)) (.cells #[.int .i64 m] 3)) (.cells #[.int .i64 (a % m), .int .i64 (b % m), .int .i64 (c % m)] 26)
    have e : w.heap.size + 1 + 1 = ((w.alloc (.cells (turnCells t) 25)).alloc (.cells #[.int .i64 a, .int .i64 b, .int .i64 c] 26)).heap.size := by simp
    rw [e]
    exact this

end Go.Proofs.Ythmagdibjbadaaa

namespace Go.Proofs.Ythmagdibjbadaaa
open Go.RowKit

/-- n turns -/
def itr (f : St → St) (s : St) : Nat → St
  | 0 => s
  | n + 1 => f (itr f s n)

/-- L are the states from s on, up to the one ahead of the first that came before; that one stands at the place lead -/
structure IsWay (f : St → St) (s : St) (L : List St) (lead : Nat) : Prop where
  lt : lead < L.length
  get : ∀ i, i < L.length → L[i]? = some (itr f s i)
  nodup : L.Nodup
  back : itr f s L.length = itr f s lead

theorem IsWay.apart {f : St → St} {s : St} {L : List St} {lead : Nat} (h : IsWay f s L lead) {i j : Nat} (hi : i < L.length) (hj : j < L.length) (e : itr f s i = itr f s j) : i = j := by
  have q1 := h.nodup.idxOf_getElem i hi
  have q2 := h.nodup.idxOf_getElem j hj
  have g1 := (List.getElem?_eq_some_iff.1 (h.get i hi)).2
  have g2 := (List.getElem?_eq_some_iff.1 (h.get j hj)).2
  rw [g1, e, ← g2, q2] at q1
  exact q1.symm

/-- there is one way -/
theorem IsWay.one {f : St → St} {s : St} {L L' : List St} {lead lead' : Nat} (h : IsWay f s L lead) (h' : IsWay f s L' lead') : L = L' ∧ lead = lead' := by
  have hle : ∀ {L L' : List St} {lead lead' : Nat}, IsWay f s L lead → IsWay f s L' lead' → L.length ≤ L'.length := by
    intro L L' lead lead' h h'
    rcases Nat.lt_or_ge L'.length L.length with hl | hl
    · have := h.apart hl (Nat.lt_trans h'.lt hl) h'.back
      have := h'.lt
      omega
    · exact hl
  have hlen : L.length = L'.length := Nat.le_antisymm (hle h h') (hle h' h)
  refine ⟨List.ext_getElem? fun i => ?_, ?_⟩
  · rcases Nat.lt_or_ge i L.length with hi | hi
    · rw [h.get i hi, h'.get i (by omega)]
    · rw [List.getElem?_eq_none hi, List.getElem?_eq_none (by omega)]
  · refine h.apart h.lt (by rw [hlen]; exact h'.lt) ?_
    rw [← h.back, hlen, h'.back]

/-- the number of a state -/
def cod (m : Int) (s : St) : Int := (s.1 * m + s.2.1) * m + s.2.2

theorem lin {x c m k : Int} (hx : 0 ≤ x) (hk : x < k) (hc : 0 ≤ c) (hm : c < m) : 0 ≤ x * m + c ∧ x * m + c < k * m := by
  have h1 := Int.mul_nonneg hx (show (0 : Int) ≤ m by omega)
  have h2 := Int.mul_le_mul_of_nonneg_right (show x + 1 ≤ k by omega) (show (0 : Int) ≤ m by omega)
  rw [Int.add_mul] at h2
  omega

theorem lin_inj {x y c d m : Int} (hc : 0 ≤ c) (hm : c < m) (hd : 0 ≤ d) (hd2 : d < m) (h : x * m + c = y * m + d) : x = y ∧ c = d := by
  have e1 : (x * m + c) % m = c := by rw [Int.add_comm, Int.add_mul_emod_self_right]; exact Int.emod_eq_of_lt hc hm
  have e2 : (y * m + d) % m = d := by rw [Int.add_comm, Int.add_mul_emod_self_right]; exact Int.emod_eq_of_lt hd hd2
  have e3 : c = d := by rw [← e1, h, e2]
  refine ⟨?_, e3⟩
  subst e3
  have : x * m = y * m := by omega
  exact Int.eq_of_mul_eq_mul_right (by omega) this

theorem cod_range {m : Int} {s : St} (h : OkSt m s) : 0 ≤ cod m s ∧ cod m s < m * m * m := by
  obtain ⟨⟨a1, a2⟩, ⟨b1, b2⟩, c1, c2⟩ := h
  have h1 := lin a1 a2 b1 b2
  exact lin h1.1 h1.2 c1 c2

theorem cod_inj {m : Int} {s t : St} (h : OkSt m s) (k : OkSt m t) (e : cod m s = cod m t) : s = t := by
  obtain ⟨a, b, c⟩ := s
  obtain ⟨a', b', c'⟩ := t
  obtain ⟨⟨a1, a2⟩, ⟨b1, b2⟩, c1, c2⟩ := h
  obtain ⟨⟨a1', a2'⟩, ⟨b1', b2'⟩, c1', c2'⟩ := k
  obtain ⟨e1, e2⟩ := lin_inj c1 c2 c1' c2' e
  obtain ⟨e3, e4⟩ := lin_inj b1 b2 b1' b2' e1
  simp only at e2 e3 e4
  rw [e2, e3, e4]

theorem cube_le {m : Int} (hm : 0 < m) (h2 : m ≤ 60) : 0 < m * m * m ∧ m * m * m ≤ 216000 := by
  have h1 := Int.mul_pos hm hm
  have h3 := Int.mul_pos h1 hm
  have h4 := Int.mul_le_mul (show m ≤ 60 by omega) (show m ≤ 60 by omega) (by omega) (by omega)
  have h5 := Int.mul_le_mul h4 (show m ≤ 60 by omega) (by omega) (by omega)
  omega

theorem few_states {m : Int} {L : List St} (hd : L.Nodup) (h : ∀ s ∈ L, OkSt m s) : L.length ≤ (m * m * m).toNat := by
  have key : ∀ {a : List St} {b : List Nat}, a.Nodup → (∀ x ∈ a, OkSt m x) → (∀ x ∈ a, (cod m x).toNat ∈ b) → a.length ≤ b.length := by
    intro a
    induction a with
    | nil => intro b _ _ _; simp
    | cons x a ih =>
      intro b hd hok hs
      obtain ⟨hx, hd'⟩ := List.nodup_cons.1 hd
      have hxb := hs x (by simp)
      have hlen := List.length_erase_of_mem hxb
      have hpos := List.length_pos_of_mem hxb
      have := ih (b := b.erase (cod m x).toNat) hd' (fun y hy => hok y (by simp [hy])) fun y hy => by
        refine (List.mem_erase_of_ne fun e => ?_).2 (hs y (by simp [hy]))
        have h1 := cod_range (hok x (by simp))
        have h2 := cod_range (hok y (by simp [hy]))
        have e2 := cod_inj (hok y (by simp [hy])) (hok x (by simp)) (by omega)
        exact hx (e2 ▸ hy)
      simp only [List.length_cons]
      omega
  have := key (b := List.range (m * m * m).toNat) hd h fun x hx => by
    have := cod_range (h x hx)
    rw [List.mem_range]; omega
  simpa using this

theorem itr_ok {m : Int} {f : St → St} (hf : ∀ s, OkSt m s → OkSt m (f s)) {s : St} (h : OkSt m s) : ∀ n, OkSt m (itr f s n)
  | 0 => h
  | n + 1 => hf _ (itr_ok hf h n)

/-- a way in the making -/
structure WayTo (f : St → St) (s : St) (L : List St) : Prop where
  get : ∀ i, i < L.length → L[i]? = some (itr f s i)
  nodup : L.Nodup

theorem WayTo.nil (f : St → St) (s : St) : WayTo f s [] := ⟨by simp, List.nodup_nil⟩
theorem WayTo.push {f : St → St} {s : St} {L : List St} (h : WayTo f s L) (hn : itr f s L.length ∉ L) : WayTo f s (L ++ [itr f s L.length]) where
  get := fun i hi => by
    simp at hi
    by_cases h1 : i < L.length
    · rw [List.getElem?_append_left h1, h.get i h1]
    · have : i = L.length := by omega
      subst this
      simp
  nodup := by
    rw [List.nodup_append]
    refine ⟨h.nodup, by simp, ?_⟩
    intro a ha b hb e
    simp at hb
    subst hb
    exact hn (e ▸ ha)
theorem WayTo.mem {f : St → St} {s : St} {L : List St} (h : WayTo f s L) {x : St} (hx : x ∈ L) : ∃ i, i < L.length ∧ x = itr f s i := by
  obtain ⟨i, hi⟩ := List.getElem?_of_mem hx
  have hl := (List.getElem?_eq_some_iff.1 hi).1
  rw [h.get i hl] at hi
  exact ⟨i, hl, (Option.some.inj hi).symm⟩
theorem WayTo.idx {f : St → St} {s : St} {L : List St} (h : WayTo f s L) {i : Nat} (hi : i < L.length) : L.idxOf (itr f s i) = i := by
  have q1 := h.nodup.idxOf_getElem i hi
  have g1 := (List.getElem?_eq_some_iff.1 (h.get i hi)).2
  rwa [g1] at q1
theorem WayTo.done {f : St → St} {s : St} {L : List St} (h : WayTo f s L) (hm : itr f s L.length ∈ L) : IsWay f s L (L.idxOf (itr f s L.length)) := by
  have hlt := List.idxOf_lt_length_of_mem hm
  refine ⟨hlt, h.get, h.nodup, ?_⟩
  obtain ⟨i, hi, e⟩ := h.mem hm
  rw [e, h.idx hi]

/-- the cells of states -/
def scells : List St → List Value
  | [] => []
  | s :: l => .int .i64 s.1 :: .int .i64 s.2.1 :: .int .i64 s.2.2 :: scells l

theorem scells_length : ∀ l, (scells l).length = l.length * 3
  | [] => rfl
  | s :: l => by simp [scells, scells_length l]; omega
theorem scells_append : ∀ a b, scells (a ++ b) = scells a ++ scells b
  | [], b => rfl
  | s :: a, b => by simp [scells, scells_append a b]
theorem scells_at : ∀ (l : List St) (i : Nat) (s : St), l[i]? = some s → (scells l)[i * 3]? = some (.int .i64 s.1) ∧ (scells l)[i * 3 + 1]? = some (.int .i64 s.2.1) ∧ (scells l)[i * 3 + 2]? = some (.int .i64 s.2.2)
  | [], i, s, h => by simp at h
  | r :: l, 0, s, h => by simp at h; subst h; simp [scells]
  | r :: l, i + 1, s, h => by
    have := scells_at l i s (by simpa using h)
    have e : (i + 1) * 3 = i * 3 + 1 + 1 + 1 := by omega
    rw [e]
    simpa [scells] using this

theorem el_state : ElemT Try.prog 35 26 3 (.agg #[.int .i64 0, .int .i64 0, .int .i64 0]) 24 := ⟨Try.underlying35, by kernel_rfl, rfl, by decide, by decide⟩

theorem kk_st : KeyKind Try.prog 26 stv where
  desc := ⟨.array 3 3, Try.underlying26, fun a b => .inl rfl⟩
  check := fun b k w => by kernel_rfl
  equal := fun a b w => by
    obtain ⟨a1, a2, a3⟩ := a
    obtain ⟨b1, b2, b3⟩ := b
    have u3 := Try.underlying3
    have g3 := Try.isAgg3
    have z3 := Try.sizeOf3
    unfold Op.equal Op.maxDepth
    rw [show (10000 : Nat) = 9999 + 1 from rfl, Op.equalIn]
    simp only [stv, Sem.run_bind, run_underlying Try.underlying26, Result.andThen_ok]
    simp only [Std.Legacy.Range.forIn_eq_forIn_range', Std.Legacy.Range.size, Nat.sub_zero, Nat.add_sub_cancel, Nat.div_one, List.range'_succ, List.range'_zero, List.forIn_cons, List.forIn_nil]
    go_simp
    by_cases h1 : a1 = b1 <;> by_cases h2 : a2 = b2 <;> by_cases h3 : a3 = b3 <;> simp [h1, h2, h3]
  bits := fun a => by simp [Instr.sameBits, stv]

end Go.Proofs.Ythmagdibjbadaaa
