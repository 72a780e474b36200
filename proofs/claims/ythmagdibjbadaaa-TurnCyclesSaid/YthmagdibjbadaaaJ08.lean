/-
  slices.SortFunc of places, by a world's order: what the walks want of the world
  slices.SortFunc of places (Insertion1): after the kit's walk at a comparison that turns nothing
-/
import Derived.Test.YthmagdibjbadaaaJ06
import Derived.Test.YthmagdibjbadaaaJ07
import Derived.Shelf.SlSortCmp.Insertion
import Derived.BigRegion
import Derived.StillTailTactics
import Derived.Deep.DeepMust
import Derived.Sort.AtCall
import Derived.Sort.WalkA
import Derived.Sort.WalkB2
import Derived.Sort.WalkB12
import Derived.Deep.LoopGhost
set_option linter.unusedSimpArgs false
set_option linter.unusedVariables false
namespace Go.Proofs.Ythmagdibjbadaaa
open Go.RowKit Go.Lib Go.Sort Sr

def encN (n : Nat) : Value := .int .i64 (n : Int)
theorem oneN : OneCell encN := fun _ => rfl

def icells (l : List Nat) : List Value := l.map fun n : Nat => .int .i64 (n : Int)

/-- what follows a region, under a name: the walk stops there -/
theorem wpList_gen {P : Program} {ops : Array Oper} {l : List Oper} {a : Act} {w : World} {Q : Exit → Act → World → Prop} (h : ∀ Q' : Exit → Act → World → Prop, Sealed (Q' = Q) → wpList P ops Q' l a w) : wpList P ops Q l a w := h Q ⟨rfl⟩

/-- what a sorting has before it: the first world, the world of forms, the row -/
structure SC where
  w0 : World
  b : WB
  vs : List Int
  U : List Int
  blk : Nat
  B : Nat
  cap : Nat

/-- the order of two places -/
def SC.cf (X : SC) (x y : Nat) : Int := sg (X.vs.getD x 0 - X.vs.getD y 0)

structure SX (X : SC) (d : Array Nat) (W : World) : Prop where
  inv0 : WInv X.w0 X.b X.vs X.U
  blt : X.blk < X.w0.heap.size
  inv : WInv W X.b X.vs X.U
  ext : Ext (fun k => k = X.b.r3 ∨ k = X.blk) X.w0 W
  free : WFree X.w0 X.b X.vs X.blk
  own : W.ownsRow X.B 3 1 (.slice (some ⟨X.blk, 0, none⟩) d.size X.cap) d.size (icells d.toList)
  lt : ∀ i, i < d.size → d[i]! < X.vs.length

variable {X : SC} {d : Array Nat} {W W' : World}

theorem SX.fnot (h : SX X d W) : ¬ (X.b.f = X.b.r3 ∨ X.b.f = X.blk) := by
  rintro (e | e)
  · exact h.inv0.apart.2.2.2.2.2.2.1 e
  · exact h.free.1 (.inr (.inl e.symm))

/-- a block that is new, or the row: no form lies there -/
theorem SX.freeAt (h : SX X d W) {q : Nat} (hq : X.w0.heap.size ≤ q) : WFree W X.b X.vs q :=
  (h.inv0.fresh hq).same h.ext (h.inv0.lt _ (.inr (.inl rfl))) h.fnot
theorem SX.freeRow (h : SX X d W) : WFree W X.b X.vs X.blk := h.free.same h.ext (h.inv0.lt _ (.inr (.inl rfl))) h.fnot

theorem SX.le (h : SX X d W) : X.w0.heap.size ≤ W.heap.size := h.ext.size
theorem SX.blkW (h : SX X d W) : X.blk < W.heap.size := Nat.lt_of_lt_of_le h.blt h.le
theorem SX.r3ne (h : SX X d W) : X.blk ≠ X.b.r3 := fun e => h.free.1 (.inr (.inr (.inr (.inr e))))

/-- the world turns elsewhere -/
theorem SX.move (h : SX X d W) {N : Nat → Prop} (e : Ext N W W') (hN : ∀ q, N q → X.w0.heap.size ≤ q) : SX X d W' where
  inv0 := h.inv0
  blt := h.blt
  inv := h.inv.extF e fun k hk _ => h.freeAt (hN k hk)
  ext := h.ext.trans e fun k hk => .inr (hN k hk)
  free := h.free
  own := own_ext h.own e fun k hk hn => by have := hN k hn; have := h.blt; have e' : X.blk = k := Option.some.inj hk; omega
  lt := h.lt

theorem SX.drew (h : SX X d W) : SX X d W.drew := h.move (N := noB) ((Ext.refl noB W).drew) fun _ h => h.elim
theorem SX.drewN (h : SX X d W) (n : Nat) : SX X d (W.drewN n) := h.move (N := noB) ((Ext.refl noB W).drewN n) fun _ h => h.elim
theorem SX.alloc (h : SX X d W) (o : Obj) : SX X d (W.alloc o) := h.move (N := noB) ((Ext.refl noB W).alloc o) fun _ h => h.elim
theorem SX.setCell_new (h : SX X d W) (b o : Nat) (v : Value) (hb : X.w0.heap.size ≤ b) : SX X d (W.setCell ⟨b, o, none⟩ v) :=
  h.move (N := fun q => q = b) ((Ext.refl (fun q => q = b) W).setCell (p := ⟨b, o, none⟩) (.inl rfl) v) fun _ e => e ▸ hb

theorem icells_at {d : Array Nat} {i : Nat} (hi : i < d.size) : (icells d.toList)[i]? = some (encN d[i]!) := by
  simp [icells, encN, hi]

theorem SX.c1 (h : SX X d W) (i : Nat) (hi : i < d.size) : W.cell? ⟨X.blk, i, none⟩ = some (encN d[i]!) := own_cell h.own rfl (icells_at hi)
theorem SX.f1 (h : SX X d W) (i : Nat) (hi : i < d.size) : W.frozen? ⟨X.blk, i, none⟩ = false := own_free h.own rfl i

/-- the comparison of two elements -/
theorem SX.cmp (h : SX X d W) (i j : Nat) (hi : i < d.size) (hj : j < d.size) :
    Calls Try.prog 33 #[.pointer (some ⟨X.b.p, 0, none⟩), encN d[i]!, encN d[j]!] W fun e w' => e = .returned (.int .i64 (X.cf d[i]! d[j]!)) ∧ SX X d w' ∧ Ext (fun k => k = X.b.r3) W w' := by
  have hget : ∀ x, x < X.vs.length → X.vs[x]? = some (X.vs.getD x 0) := fun x hx => by simp [hx]
  refine (cmp_any (hget _ (h.lt i hi)) (hget _ (h.lt j hj)) h.inv).mono ?_
  rintro e w' ⟨rfl, hc⟩
  exact ⟨rfl, ⟨h.inv0, h.blt, hc.inv, h.ext.trans hc.ext fun k hk => .inl (.inl hk), h.free, own_ext h.own hc.ext fun k hk e => h.r3ne (by have e' : X.blk = k := Option.some.inj hk; rw [e']; exact e), h.lt⟩, hc.ext⟩

/-- behind the exchange's first store the second place still holds something -/
theorem SX.c2 (h : SX X d W) (i j : Nat) (hi : i < d.size) (hj : j < d.size) (v : Value) : ∃ u, (W.setCell ⟨X.blk, i, none⟩ v).cell? ⟨X.blk, j, none⟩ = some u := by
  by_cases e : i = j
  · subst e; exact ⟨v, World.cell?_setCell_same _ _ _ (h.c1 i hi)⟩
  · exact ⟨_, (World.cell?_setCell_other _ _ _ _ (by intro e'; simp only [Addr.mk.injEq] at e'; omega)).trans (h.c1 j hj)⟩

theorem SX.swapped (h : SX X d W) (i j : Nat) (hi : i < d.size) (hj : j < d.size) :
    SX X (swp d i j) ((W.setCell ⟨X.blk, i, none⟩ (encN d[j]!)).setCell ⟨X.blk, j, none⟩ (encN d[i]!)).drew := by
  have hx1 : Ext (fun q => q = X.blk) W (W.setCell ⟨X.blk, i, none⟩ (encN d[j]!)) := (Ext.refl (fun q => q = X.blk) W).setCell (p := ⟨X.blk, i, none⟩) (.inl rfl) _
  have hx2 : Ext (fun q => q = X.blk) W ((W.setCell ⟨X.blk, i, none⟩ (encN d[j]!)).setCell ⟨X.blk, j, none⟩ (encN d[i]!)) := hx1.setCell (p := ⟨X.blk, j, none⟩) (.inl rfl) _
  have ho1 := own_set h.own (b := X.blk) rfl (j := i) (by omega) (encN d[j]!)
  have ho2 := own_set ho1 (b := X.blk) rfl (j := j) (by omega) (encN d[i]!)
  have hl : icells (swp d i j).toList = ((icells d.toList).set i (encN d[j]!)).set j (encN d[i]!) := by
    simp [icells, swp, encN]
  refine SX.drew ⟨h.inv0, h.blt, h.inv.extF hx2 fun k hk _ => hk ▸ h.freeRow, h.ext.trans hx2 fun k hk => .inl (.inr hk), h.free, ?_, fun k hk => ?_⟩
  · rw [hl, size_swp]; exact ho2
  · rw [size_swp] at hk
    unfold swp
    rw [Array.getElem!_eq_getD, Array.getD_eq_getD_getElem?]
    simp only [Array.getElem?_setIfInBounds]
    by_cases e1 : j = k
    · subst e1; simp [hj]; simpa [hi] using h.lt i hi
    · by_cases e2 : i = k
      · subst e2; simp [e1, hi]; simpa [hj] using h.lt j hj
      · simp [e1, e2, hk]; simpa [hk] using h.lt k hk

/-- A cell of another block than the row's, behind an exchange. -/
theorem box_kept1 {W : World} {blk c : Nat} {v : Value} (hne : c ≠ blk) (hc : W.cell? ⟨c, 0, none⟩ = some v) (hf : W.frozen? ⟨c, 0, none⟩ = false) (x y : Nat) (u u' : Value) :
    ((W.setCell ⟨blk, x, none⟩ u).setCell ⟨blk, y, none⟩ u').drew.cell? ⟨c, 0, none⟩ = some v ∧ ((W.setCell ⟨blk, x, none⟩ u).setCell ⟨blk, y, none⟩ u').drew.frozen? ⟨c, 0, none⟩ = false :=
  ⟨by show ((W.setCell ⟨blk, x, none⟩ u).setCell ⟨blk, y, none⟩ u').cell? _ = _; rw [World.cell?_setCell_other _ _ _ _ (by intro e; simp only [Addr.mk.injEq] at e; exact hne e.1.symm), World.cell?_setCell_other _ _ _ _ (by intro e; simp only [Addr.mk.injEq] at e; exact hne e.1.symm)]; exact hc, by show ((W.setCell ⟨blk, x, none⟩ u).setCell ⟨blk, y, none⟩ u').frozen? _ = _; rw [World.frozen?_setCell, World.frozen?_setCell]; exact hf⟩

/-! ### choosePivotCmpFunc's counter -/
def CX (X : SC) (d : Array Nat) (c s : Nat) (W : World) : Prop :=
  SX X d W ∧ W.cell? ⟨c, 0, none⟩ = some (.int .i64 s) ∧ W.frozen? ⟨c, 0, none⟩ = false ∧ X.w0.heap.size ≤ c ∧ c < W.heap.size

theorem frozen_same {w w1 : World} {b : Nat} (h : w1.heap[b]? = w.heap[b]?) (i : Nat) : w1.frozen? ⟨b, i, none⟩ = w.frozen? ⟨b, i, none⟩ := by simp [World.frozen?, h]

theorem CX.kept {c s : Nat} (h : CX X d c s W) {d' : Array Nat} (hs : SX X d' W') (e : Ext (fun k => k = X.b.r3) W W') : CX X d' c s W' := by
  have hne : c ≠ X.b.r3 := fun e => by have := h.1.inv0.lt X.b.r3 (.inr (.inr (.inr (.inr rfl)))); have := h.2.2.2.1; omega
  have hb := e.block c h.2.2.2.2 hne
  exact ⟨hs, (cell_same hb 0).trans h.2.1, (frozen_same hb 0).trans h.2.2.1, h.2.2.2.1, Nat.lt_of_lt_of_le h.2.2.2.2 e.size⟩

theorem CX.drew {c s : Nat} (h : CX X d c s W) : CX X d c s W.drew := ⟨h.1.drew, h.2.1, h.2.2.1, h.2.2.2.1, h.2.2.2.2⟩

theorem CX.bump {c s : Nat} (h : CX X d c s W) (t : Nat) : CX X d c t (W.setCell ⟨c, 0, none⟩ (.int .i64 t)) :=
  ⟨h.1.setCell_new c 0 _ h.2.2.2.1, World.cell?_setCell_same' _ _ _ (by rw [h.2.1]; rfl), by rw [World.frozen?_setCell]; exact h.2.2.1, h.2.2.2.1, by simpa using h.2.2.2.2⟩

theorem CX.start (h : SX X d W) (T : TypeId) : CX X d W.heap.size 0 (W.alloc (.cells #[.int .i64 0] T)) :=
  ⟨h.alloc _, by simp, by simp, h.le, by simp⟩

end Go.Proofs.Ythmagdibjbadaaa

namespace Go.Proofs.Ythmagdibjbadaaa
open Go.RowKit Go.Lib Go.Sort Sr
variable {X : SC}

set_option maxHeartbeats 16000000 in
set_option maxRecDepth 1000000 in
/-- slices.insertionSortCmpFunc at elements of one cell: from a world of the sort's to a world of the sort's. -/
theorem insertionSortCmpFunc_s_x (a b : Nat) (d : Array Nat) (w : World)
    (S : SX X d w) (hab : a ≤ b) (hb : b ≤ d.size) (hsz : d.size < 4611686018427387904) :
    Calls Try.prog 48 #[.slice (some ⟨X.blk, 0, none⟩) d.size X.cap, .int .i64 a, .int .i64 b, .func (.func 33) #[.pointer (some ⟨X.b.p, 0, none⟩)] #[]] w fun e w' => e = .returned (.tuple #[]) ∧ SX X (Sort.insertionSort (ltOf X.cf) d a b) w' := by
  have hcl0 := oneN.cells
  simp only [Value.cells] at hcl0
  have hst := oneN.store Try.prog
  have S0 : Aside (SX X d w) := S
  clear S
  go_enter Try.func48, Try.ntmps48
  go_wp2
  go_loopg [8] (b - a) (fun g1 vi wr => ∃ (i : Nat) (dk : Array Nat), vi = .int .i64 i ∧ a < i ∧ i ≤ b + 1 ∧ b + 1 - i ≤ g1 + 1 ∧ dk.size = d.size ∧ Aside (SX X dk wr) ∧ Hid (insOuter (ltOf X.cf) a b i dk = insOuter (ltOf X.cf) a b (a + 1) d))
  case atStart => exact ⟨a + 1, d, by go_num, by omega, by omega, by omega, rfl, S0, rfl⟩
  case round =>
    clear S0
    obtain ⟨i, dk, rfl, hai, hib, hg1, hsk, S1, HO⟩ := hrel
    by_cases hlt : i < b
    · have hltz : (i : Int) < (b : Int) := by omega
      go_wp2
      -- the inner loop
      go_loopg [9] i (fun g2 vj wr2 => ∃ (j : Nat) (dj : Array Nat), vj = .int .i64 j ∧ a ≤ j ∧ j ≤ i ∧ j ≤ g2 ∧ dj.size = d.size ∧ Aside (SX X dj wr2) ∧ Hid (insInner (ltOf X.cf) a j dj = insInner (ltOf X.cf) a i dk))
      case atStart => exact ⟨i, dk, rfl, by omega, Nat.le_refl _, Nat.le_refl _, hsk, S1, rfl⟩
      case round =>
        clear S1
        obtain ⟨j, dj, rfl, haj, hji, hg2, hsj, SJ, HI⟩ := hrel
        have out : (j ≤ a ∨ (ltOf X.cf) dj[j]! dj[j - 1]! = false) → Hid (insOuter (ltOf X.cf) a b (i + 1) dj = insOuter (ltOf X.cf) a b (a + 1) d) := fun hs => by
          show _ = _
          rw [← HO.out, insOuter_go _ _ _ _ _ hlt, ← HI.out, insInner_stop _ _ _ _ hs]
        have OUT : Aside _ := out
        clear out
        by_cases hja : a < j
        · have hjaz : (a : Int) < (j : Int) := by omega
          obtain ⟨jp, hjp⟩ : ∃ q, q + 1 = j := ⟨j - 1, by omega⟩
          have zjp : (j : Int) = (jp : Int) + 1 := by omega
          have hjad : decide ((jp : Int) + 1 > (a : Int)) = true := decide_eq_true (by omega)
          have hjaz' : (a : Int) < (jp : Int) + 1 := by omega
          cases hlv : (ltOf X.cf) dj[j]! dj[j - 1]! with
          | true =>
            obtain ⟨iN1193, hiN1193⟩ : ∃ q, q = j := ⟨_, rfl⟩
            obtain ⟨jN1193, hjN1193⟩ : ∃ q, q = j - 1 := ⟨_, rfl⟩
            have ea1193 : ((jp : Int) + 1).toNat = iN1193 := by omega
            have pa1193 : (0 : Int) ≤ (jp : Int) + 1 := by omega
            have ba1193 : (jp : Int) + 1 < (d.size : Int) := by omega
            have ra1193 : IntKind.i64.wrap ((jp : Int) + 1) = (jp : Int) + 1 := by rw [IntKind.wrap_i64]; omega
            have ec1193 : ((jp : Int)).toNat = jN1193 := by omega
            have pc1193 : (0 : Int) ≤ (jp : Int) := by omega
            have bc1193 : (jp : Int) < (d.size : Int) := by omega
            have rc1193 : IntKind.i64.wrap ((jp : Int)) = (jp : Int) := by rw [IntKind.wrap_i64]; omega
            obtain ⟨x1193, hx1193⟩ : ∃ x, x = dj[j]! := ⟨_, rfl⟩
            obtain ⟨y1193, hy1193⟩ : ∃ x, x = dj[j - 1]! := ⟨_, rfl⟩
            have l1193a := SJ.out.drew.c1 (j) (by omega)
            have l1193b := SJ.out.drew.c1 (j - 1) (by omega)
            rw [← hx1193, ← hiN1193] at l1193a
            rw [← hy1193, ← hjN1193] at l1193b
            have hc1193 := SJ.out.drew.cmp (j) (j - 1) (by omega) (by omega)
            rw [← hx1193, ← hy1193] at hc1193
            have hv1193 : X.cf x1193 y1193 < 0 := by rw [hx1193, hy1193]; exact of_decide_eq_true hlv
            have hd1193 : decide (X.cf x1193 y1193 < 0) = true := decide_eq_true hv1193
            clear hx1193 hy1193 hiN1193 hjN1193
            go_wp2_with fail
            (refine wp_region_still_tail 14 (by kernel_rfl) (by kernel_rfl) ?_; simp only [List.take_succ_cons, List.take_zero, List.drop_succ_cons, List.drop_zero]; (repeat still_step); refine wpStill_nil ?_)
            change wpList _ _ _ _ _ wr.drew
            refine wpList_gen fun Qq hQq => ?_
            go_wp2_with (go_at_call 33; go_must (refine hc1193.mono ?_; rintro e1q w2 ⟨rfl, S2q, E2q⟩; have S2 : Aside (SX X dj w2) := S2q; clear l1193a l1193b hc1193 SJ ea1193 ec1193 S2q E2q))
            obtain rfl := hQq.out
            clear hQq
            go_wp2_with fail
            obtain ⟨iN1194, hiN1194⟩ : ∃ q, q = j := ⟨_, rfl⟩
            obtain ⟨jN1194, hjN1194⟩ : ∃ q, q = j - 1 := ⟨_, rfl⟩
            have ea1194 : ((jp : Int) + 1).toNat = iN1194 := by omega
            have pa1194 : (0 : Int) ≤ (jp : Int) + 1 := by omega
            have ba1194 : (jp : Int) + 1 < (d.size : Int) := by omega
            have ra1194 : IntKind.i64.wrap ((jp : Int) + 1) = (jp : Int) + 1 := by rw [IntKind.wrap_i64]; omega
            have ec1194 : ((jp : Int)).toNat = jN1194 := by omega
            have pc1194 : (0 : Int) ≤ (jp : Int) := by omega
            have bc1194 : (jp : Int) < (d.size : Int) := by omega
            have rc1194 : IntKind.i64.wrap ((jp : Int)) = (jp : Int) := by rw [IntKind.wrap_i64]; omega
            obtain ⟨x1194, hx1194⟩ : ∃ x, x = dj[j]! := ⟨_, rfl⟩
            obtain ⟨y1194, hy1194⟩ : ∃ x, x = dj[j - 1]! := ⟨_, rfl⟩
            have S3 : Aside (SX X (swp dj (j) (j - 1)) ((w2.setCell ⟨X.blk, iN1194, none⟩ (encN y1194)).setCell ⟨X.blk, jN1194, none⟩ (encN x1194)).drew) := by rw [hiN1194, hjN1194, hx1194, hy1194]; exact S2.out.swapped (j) (j - 1) (by omega) (by omega)
            have c1194a := S2.out.c1 (j) (by omega)
            have c1194b := S2.out.c1 (j - 1) (by omega)
            have f1194a := S2.out.f1 (j) (by omega)
            have f1194b := S2.out.f1 (j - 1) (by omega)
            obtain ⟨u1194, c1194c⟩ := S2.out.c2 (j) (j - 1) (by omega) (by omega) (encN y1194)
            rw [← hjN1194, ← hiN1194] at c1194c
            rw [← hx1194, ← hiN1194] at c1194a
            rw [← hy1194, ← hjN1194] at c1194b
            rw [← hiN1194] at f1194a
            rw [← hjN1194] at f1194b
            clear S2 hx1194 hy1194 hiN1194 hjN1194
            go_wp2_with fail
            go_region
            clear c1194a c1194b c1194c f1194a f1194b
            generalize ((w2.setCell ⟨X.blk, iN1194, none⟩ (encN y1194)).setCell ⟨X.blk, jN1194, none⟩ (encN x1194)).drew = w3 at S3 ⊢
            clear ea1194 ec1194
            go_wp2
            go_roundg (j - 1)
            case measure => omega
            case rel => exact ⟨j - 1, swp dj j (j - 1), by first | rfl | go_num | (congr 1; omega), by omega, by omega, Nat.le_refl _, by rw [size_swp]; exact hsj, S3, (show Hid _ from by rw [← HI.out, insInner_go (ltOf X.cf) a j dj hja hlv]; exact rfl)⟩
          | false =>
            obtain ⟨iN1195, hiN1195⟩ : ∃ q, q = j := ⟨_, rfl⟩
            obtain ⟨jN1195, hjN1195⟩ : ∃ q, q = j - 1 := ⟨_, rfl⟩
            have ea1195 : ((jp : Int) + 1).toNat = iN1195 := by omega
            have pa1195 : (0 : Int) ≤ (jp : Int) + 1 := by omega
            have ba1195 : (jp : Int) + 1 < (d.size : Int) := by omega
            have ra1195 : IntKind.i64.wrap ((jp : Int) + 1) = (jp : Int) + 1 := by rw [IntKind.wrap_i64]; omega
            have ec1195 : ((jp : Int)).toNat = jN1195 := by omega
            have pc1195 : (0 : Int) ≤ (jp : Int) := by omega
            have bc1195 : (jp : Int) < (d.size : Int) := by omega
            have rc1195 : IntKind.i64.wrap ((jp : Int)) = (jp : Int) := by rw [IntKind.wrap_i64]; omega
            obtain ⟨x1195, hx1195⟩ : ∃ x, x = dj[j]! := ⟨_, rfl⟩
            obtain ⟨y1195, hy1195⟩ : ∃ x, x = dj[j - 1]! := ⟨_, rfl⟩
            have l1195a := SJ.out.drew.c1 (j) (by omega)
            have l1195b := SJ.out.drew.c1 (j - 1) (by omega)
            rw [← hx1195, ← hiN1195] at l1195a
            rw [← hy1195, ← hjN1195] at l1195b
            have hc1195 := SJ.out.drew.cmp (j) (j - 1) (by omega) (by omega)
            rw [← hx1195, ← hy1195] at hc1195
            have hv1195 : ¬ X.cf x1195 y1195 < 0 := by rw [hx1195, hy1195]; exact of_decide_eq_false hlv
            have hd1195 : decide (X.cf x1195 y1195 < 0) = false := decide_eq_false hv1195
            clear hx1195 hy1195 hiN1195 hjN1195
            go_wp2_with fail
            (refine wp_region_still_tail 14 (by kernel_rfl) (by kernel_rfl) ?_; simp only [List.take_succ_cons, List.take_zero, List.drop_succ_cons, List.drop_zero]; (repeat still_step); refine wpStill_nil ?_)
            change wpList _ _ _ _ _ wr.drew
            refine wpList_gen fun Qq hQq => ?_
            go_wp2_with (go_at_call 33; go_must (refine hc1195.mono ?_; rintro e1q w2 ⟨rfl, S2q, E2q⟩; have S2 : Aside (SX X dj w2) := S2q; clear l1195a l1195b hc1195 SJ ea1195 ec1195 S2q E2q))
            obtain rfl := hQq.out
            clear hQq
            go_wp2
            go_roundg (b - (i + 1))
            case measure => omega
            case rel => exact ⟨i + 1, dj, by go_num, by omega, by omega, by omega, hsj, S2, OUT.out (Or.inr hlv)⟩
        · -- j = a: out of the inner loop (the guard is false: 'cmp' is not called)
          have hjaz : decide ((j : Int) > (a : Int)) = false := decide_eq_false (by omega)
          have hjaz' : ¬ (a : Int) < (j : Int) := by omega
          go_wp2_with fail
          go_region
          have S2 : Aside (SX X dj wr.drew) := SJ.out.drew
          clear SJ
          generalize wr.drew = w2 at S2 ⊢
          go_wp2
          go_roundg (b - (i + 1))
          case measure => omega
          case rel => exact ⟨i + 1, dj, by go_num, by omega, by omega, by omega, hsj, S2, OUT.out (Or.inl (by omega))⟩
    · -- the outer loop is at its end
      have hltz : ¬ (i : Int) < (b : Int) := by omega
      go_wp2
      go_end0
      exact ⟨rfl, by unfold Sort.insertionSort; rw [← HO.out, insOuter_stop _ _ _ _ _ hlt]; exact S1.out⟩

end Go.Proofs.Ythmagdibjbadaaa
