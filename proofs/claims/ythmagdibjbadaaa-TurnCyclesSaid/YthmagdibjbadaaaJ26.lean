/-
  TurnCycles, of seed sandreckoner: for every turn, start and modulus the call returns true and its argument reads as it read.
  The row: the argument is a struct of sixteen integers, arrays within; whatever of ints, arrays and structs is made reads no memory.
-/
import Derived.Test.YthmagdibjbadaaaRows
import Derived.Test.YthmagdibjbadaaaJ25
import Derived.ProofKit
import Derived.OpenShut
set_option linter.unusedSimpArgs false
set_option linter.unusedVariables false
namespace Go.Proofs.Ythmagdibjbadaaa.turnCycles
open Go.ChangeShapes Go.WideShapes Go.ChangeAt Go.RowKit Sr
set_option linter.unusedVariables false

theorem own : ownKnob Try.prog.godebug = none := by kernel_rfl

/-- types made of integers, arrays and structs -/
inductive Quiet (P : Program) : TypeId → Prop
  | int {t : TypeId} {k : IntKind} : P.underlying t = some (.int k) → Quiet P t
  | array {t e : TypeId} {n : Nat} : P.underlying t = some (.array n e) → Quiet P e → Quiet P t
  | struct {t : TypeId} {fs : Array Field} : P.underlying t = some (.struct fs) → (∀ f ∈ fs.toList, Quiet P f.type) → Quiet P t

theorem mapM_same {α β γ : Type} {f g : α → Option (β × List γ)} : ∀ (l : List α) (xs : List (β × List γ)), (∀ a ∈ l, ∀ y, f a = some y → y.2 = [] ∧ g a = some y) → l.mapM f = some xs → l.mapM g = some xs ∧ xs.flatMap (·.2) = []
  | [], xs, _, h => by
    simp at h
    subst h
    simp
  | a :: l, xs, hk, h => by
    rw [List.mapM_cons] at h
    cases h1 : f a with
    | none => simp [h1] at h
    | some y =>
      cases h2 : l.mapM f with
      | none => simp [h1, h2] at h
      | some ys =>
        simp [h1, h2] at h
        subst h
        obtain ⟨k1, k2⟩ := hk a (by simp) y h1
        obtain ⟨m1, m2⟩ := mapM_same l ys (fun b hb => hk b (by simp [hb])) h2
        rw [List.mapM_cons]
        refine ⟨by simp [k2, m1], ?_⟩
        rw [List.flatMap_cons, k1, m2]
        rfl

theorem Quiet.trod {H : Type} {enc : TypeId × Value → H} {P : Program} {w : World} {base : Nat} {spare : Nat → Bool} {held : Bool} {t : TypeId} (q : Quiet P t) :
    ∀ (fuel : Nat) (cs : List Value) (x : DataW H × List MemPlace), DataW.trod enc P w base spare held fuel t cs = some x →
      x.2 = [] ∧ ∀ w' base' spare' held', DataW.trod enc P w' base' spare' held' fuel t cs = some x := by
  induction q with
  | int ht =>
    intro fuel cs x h
    cases fuel with
    | zero => simp [DataW.trod] at h
    | succ n =>
      obtain ⟨z, rfl, rfl, hw⟩ := DataW.trod_int ht h
      exact ⟨rfl, fun w' base' spare' held' => by simp [DataW.trod, ht, hw]⟩
  | array ht _ ih =>
    intro fuel cs x h
    cases fuel with
    | zero => simp [DataW.trod] at h
    | succ n =>
      unfold DataW.trod at h
      rw [ht] at h
      simp only at h
      split at h
      · rename_i hl
        obtain ⟨xs, hxs, rfl⟩ := Option.map_eq_some_iff.1 h
        have key := fun w' base' spare' held' => mapM_same (g := fun i => DataW.trod enc P w' base' spare' held' n _ ((cs.drop (i * P.cellsOf _)).take (P.cellsOf _))) _ xs (fun i _ y hy => ⟨(ih n _ y hy).1, (ih n _ y hy).2 w' base' spare' held'⟩) hxs
        refine ⟨(key w base spare held).2, fun w' base' spare' held' => ?_⟩
        unfold DataW.trod
        rw [ht]
        simp only [hl, if_true]
        rw [(key w' base' spare' held').1]
        rfl
      · exact absurd h (by simp)
  | struct ht _ ih =>
    intro fuel cs x h
    cases fuel with
    | zero => simp [DataW.trod] at h
    | succ n =>
      unfold DataW.trod at h
      rw [ht] at h
      simp only at h
      split at h
      · rename_i hl
        obtain ⟨xs, hxs, rfl⟩ := Option.map_eq_some_iff.1 h
        have key := fun w' base' spare' held' => mapM_same (g := fun f : Field => DataW.trod enc P w' base' spare' held' n f.type ((cs.drop f.offset).take (P.cellsOf f.type))) _ xs (fun f hf y hy => ⟨(ih f hf n _ y hy).1, (ih f hf n _ y hy).2 w' base' spare' held'⟩) hxs
        refine ⟨(key w base spare held).2, fun w' base' spare' held' => ?_⟩
        unfold DataW.trod
        rw [ht]
        simp only [hl, if_true]
        rw [(key w' base' spare' held').1]
        rfl
      · exact absurd h (by simp)

theorem quiet_int : Quiet Try.prog 3 := .int Try.underlying3
theorem quiet_state : Quiet Try.prog 26 := .array Try.underlying26 quiet_int
theorem quiet_row : Quiet Try.prog 22 := .array Try.underlying22 quiet_int
theorem quiet_rows : Quiet Try.prog 23 := .array Try.underlying23 quiet_row
theorem quiet_turn : Quiet Try.prog 25 := .struct Try.underlying25 fun f hf => by
  simp at hf
  subst hf
  exact quiet_rows
theorem quiet_case : Quiet Try.prog 28 := .struct Try.underlying28 fun f hf => by
  simp at hf
  rcases hf with rfl | rfl | rfl
  · exact quiet_turn
  · exact quiet_state
  · exact quiet_int

theorem cells_case : Try.prog.cellsOf 28 = 16 := by kernel_rfl
theorem types_case : Try.prog.cellTypes Try.prog.depth 28 = some (List.replicate 16 3) := by kernel_rfl

/-- sixteen values that are integers -/
theorem sixteen (cs : Array Value) (hs : cs.size = 16) (hi : ∀ (i : Nat) (v : Value), cs[i]? = some v → ∃ n, v = Value.int .i64 n) :
    ∃ a0 a1 a2 a3 a4 a5 a6 a7 a8 a9 a10 a11 a12 a13 a14 a15 : Int, cs = #[Value.int .i64 a0, .int .i64 a1, .int .i64 a2, .int .i64 a3, .int .i64 a4, .int .i64 a5, .int .i64 a6, .int .i64 a7, .int .i64 a8, .int .i64 a9, .int .i64 a10, .int .i64 a11, .int .i64 a12, .int .i64 a13, .int .i64 a14, .int .i64 a15] := by
  have at_ : ∀ i : Nat, i < 16 → ∃ n, cs[i]? = some (.int .i64 n) := fun i h => by
    have e : cs[i]? = some (cs[i]'(by omega)) := Array.getElem?_eq_getElem (by omega)
    obtain ⟨n, hn⟩ := hi i _ e
    exact ⟨n, by rw [e, hn]⟩
  obtain ⟨a0, e0⟩ := at_ 0 (by omega)
  obtain ⟨a1, e1⟩ := at_ 1 (by omega)
  obtain ⟨a2, e2⟩ := at_ 2 (by omega)
  obtain ⟨a3, e3⟩ := at_ 3 (by omega)
  obtain ⟨a4, e4⟩ := at_ 4 (by omega)
  obtain ⟨a5, e5⟩ := at_ 5 (by omega)
  obtain ⟨a6, e6⟩ := at_ 6 (by omega)
  obtain ⟨a7, e7⟩ := at_ 7 (by omega)
  obtain ⟨a8, e8⟩ := at_ 8 (by omega)
  obtain ⟨a9, e9⟩ := at_ 9 (by omega)
  obtain ⟨a10, e10⟩ := at_ 10 (by omega)
  obtain ⟨a11, e11⟩ := at_ 11 (by omega)
  obtain ⟨a12, e12⟩ := at_ 12 (by omega)
  obtain ⟨a13, e13⟩ := at_ 13 (by omega)
  obtain ⟨a14, e14⟩ := at_ 14 (by omega)
  obtain ⟨a15, e15⟩ := at_ 15 (by omega)
  refine ⟨a0, a1, a2, a3, a4, a5, a6, a7, a8, a9, a10, a11, a12, a13, a14, a15, Array.ext_getElem? fun i => ?_⟩
  rcases Nat.lt_or_ge i 16 with h | h
  · rcases (show i = 0 ∨ i = 1 ∨ i = 2 ∨ i = 3 ∨ i = 4 ∨ i = 5 ∨ i = 6 ∨ i = 7 ∨ i = 8 ∨ i = 9 ∨ i = 10 ∨ i = 11 ∨ i = 12 ∨ i = 13 ∨ i = 14 ∨ i = 15 by omega) with rfl | rfl | rfl | rfl | rfl | rfl | rfl | rfl | rfl | rfl | rfl | rfl | rfl | rfl | rfl | rfl
    · exact e0
    · exact e1
    · exact e2
    · exact e3
    · exact e4
    · exact e5
    · exact e6
    · exact e7
    · exact e8
    · exact e9
    · exact e10
    · exact e11
    · exact e12
    · exact e13
    · exact e14
    · exact e15
  · rw [Array.getElem?_eq_none (by omega), Array.getElem?_eq_none (by simpa using h)]

set_option maxRecDepth 100000 in
theorem open_case {w : World} {r : Reach} {b : Nat} {v : Value} (h : Value.okWide Try.prog w r b 28 v) :
    ∃ a0 a1 a2 a3 a4 a5 a6 a7 a8 a9 a10 a11 a12 a13 a14 a15 : Int, v = .agg #[.int .i64 a0, .int .i64 a1, .int .i64 a2, .int .i64 a3, .int .i64 a4, .int .i64 a5, .int .i64 a6, .int .i64 a7, .int .i64 a8, .int .i64 a9, .int .i64 a10, .int .i64 a11, .int .i64 a12, .int .i64 a13, .int .i64 a14, .int .i64 a15] := by
  simp only [Value.okWide, Try.underlying28] at h
  obtain ⟨cs, rfl, hs, ts, hts, -, hc⟩ := h
  rw [types_case] at hts
  obtain rfl := Option.some.inj hts
  obtain ⟨a0, a1, a2, a3, a4, a5, a6, a7, a8, a9, a10, a11, a12, a13, a14, a15, rfl⟩ := sixteen cs (hs.trans cells_case) fun i v hv => by
    obtain ⟨u, hu, hk⟩ := hc i v hv
    have eu : u = 3 := by
      have := List.mem_of_getElem? hu
      exact List.eq_of_mem_replicate this
    subst eu
    exact okWide_int (w := w) (r := r) (base := b) Try.underlying3 (by
      unfold Value.okWide
      rw [Try.underlying3]
      exact hk)
  exact ⟨a0, a1, a2, a3, a4, a5, a6, a7, a8, a9, a10, a11, a12, a13, a14, a15, rfl⟩

set_option maxRecDepth 100000 in
theorem lifted (os : Os) (started : os.Started) (H : Type) (enc : TypeId × Value → H) :
    ReturnsInHanded {} Try.checked os 3 .any (Rows.turnCyclesSpec.pre6 enc Try.prog Try.f3 Rows.turnCyclesRow.domain false) (Rows.turnCyclesSpec.post enc Try.prog Try.f3 false true false false) := by
  refine returnsInHanded_of_change (C := Try.checked) own started (by kernel_rfl) Try.func3
    (ChangeSpec.witness6 (enc := enc) (C := Try.checked) false ⟨#[], #[.agg #[.int .i64 0, .int .i64 0, .int .i64 0, .int .i64 0, .int .i64 0, .int .i64 0, .int .i64 0, .int .i64 0, .int .i64 0, .int .i64 0, .int .i64 0, .int .i64 0, .int .i64 0, .int .i64 0, .int .i64 0, .int .i64 0]], []⟩ 8 (by kernel_rfl) (by kernel_rfl) (by kernel_rfl) (by kernel_rfl)) ?_
  intro W base args ds gs before hval0 hW hcnd _
  have hval : ∀ (j : Nat) t v, Try.f3.params[j]? = some t → args[j]? = some v → Value.okWide Try.prog W .any base t v := hval0
  have hW' := hW
  obtain ⟨p, q, hA0, hV, rfl, hfz, hnd⟩ := hW
  have hA : DataW.TrodAll enc Try.prog W 0 (fun _ => true) true Try.f3.params.toList args.toList ds p := hA0
  rw [Try.params3] at hA hval
  obtain ⟨v0, vs0, d0, ds0, p0, q0, hargs, rfl, rfl, h0, r0⟩ := trodAll_cons hA
  obtain ⟨rfl, rfl, rfl⟩ := trodAll_nil r0
  obtain rfl : args = #[v0] := by cases args; simp_all
  obtain ⟨rfl, rfl⟩ := trodVars_none hV
  obtain ⟨a0, a1, a2, a3, a4, a5, a6, a7, a8, a9, a10, a11, a12, a13, a14, a15, rfl⟩ := open_case (hval 0 28 v0 rfl rfl)
  obtain ⟨fuel, ht⟩ := h0
  obtain ⟨k1, k2⟩ := quiet_case.trod fuel _ _ ht
  simp only at k1
  subst k1
  clear hA0 hval0
  simp only [List.append_nil] at hW'
  refine (law_any a0 a1 a2 a3 a4 a5 a6 a7 a8 a9 a10 a11 a12 a13 a14 a15 W).mono fun e W' ⟨he, hg⟩ => ?_
  subst he
  refine ⟨_, rfl, _, _, [], [], [], [], hW', ?_, ?_, rfl, hg.frame _, fun h => nomatch h⟩
  · exact trodAll_cons_mk (shut_bool Try.underlying4 _) trodAll_mk0
  · exact trodAll_cons_mk ⟨fuel, k2 _ _ _ _⟩ trodAll_mk0

theorem over : Rows.turnCyclesRow.holds Try.pinned (OpenSpec.ofChange Rows.turnCyclesSpec) :=
  OpenClaim.holds_of_wide 3 Try.f3 rfl rfl rfl rfl rfl rfl rfl ⟨rfl, rfl, rfl, rfl, rfl⟩ rfl rfl rfl rfl rfl (by kernel_rfl) Try.func3 (by kernel_rfl)
    (of_decide_eq_true (by kernel_rfl)) (by unfold Func.isWrapper; first | (rw [if_pos (by decide +kernel)]; kernel_rfl) | (rw [if_neg (by decide +kernel)]; exact ⟨rfl, rfl⟩))
    (fun os started H enc _ => lifted os started H enc)

/-- the given statement -/
theorem proved : Rows.TurnCyclesSaid := over

end Go.Proofs.Ythmagdibjbadaaa.turnCycles
