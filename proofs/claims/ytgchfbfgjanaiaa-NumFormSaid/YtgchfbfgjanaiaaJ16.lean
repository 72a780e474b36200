/-
  slices.SortFunc of places, by a world's order
  num.world.sum: what its second loop holds
-/
import Derived.Test.YtgchfbfgjanaiaaJ15
import Derived.Test.YtgchfbfgjanaiaaJ11
import Derived.Sort.AssemblyPlain
import Derived.Test.YtgchfbfgjanaiaaJ09
import Derived.Test.YtgchfbfgjanaiaaJ03
import Derived.Test.YtgchfbfgjanaiaaJ04
set_option linter.unusedSimpArgs false
set_option linter.unusedVariables false
namespace Go.Proofs.Ytgchfbfgjanaiaa
open Go.RowKit Go.Lib Go.Sort Sr
def Rising (vs : List Int) (l : List Nat) : Prop := l.Pairwise fun i j => ∀ x y, vs[i]? = some x → vs[j]? = some y → x < y
theorem cf_swo (X : SC) : SWO (ltOf X.cf) := by
  have key : ∀ x y, ltOf X.cf x y = decide (X.vs.getD x 0 < X.vs.getD y 0) := by
    intro x y
    unfold ltOf SC.cf sg
    generalize X.vs.getD x 0 = a
    generalize X.vs.getD y 0 = b
    by_cases h : a < b
    · have : a - b < 0 := by omega
      simp [h, this]
    · have h1 : ¬ a - b < 0 := by omega
      simp only [h, h1, if_false, decide_false]
      split <;> simp
  refine ⟨fun x => by simp [key], fun x y z h1 h2 => ?_, fun x y z h1 h2 => ?_⟩
  · rw [key, decide_eq_true_eq] at h1 h2 ⊢; omega
  · rw [key, decide_eq_false_iff_not] at h1 h2 ⊢; omega
set_option maxRecDepth 100000 in
set_option maxHeartbeats 2000000 in
theorem insSort_none (p : Option Addr) (cap : Nat) (fv : Value) (w : World) :
    Calls Try.prog 108 #[.slice p 0 cap, .int .i64 0, .int .i64 0, fv] w fun e w' => e = .returned (.tuple #[]) ∧ w' = w := by
  go_enter Try.func108, Try.ntmps108
  go_wp2
  refine wp_loop_rounds 1 ?_
  rw [rounds_succ]
  go_wp2
  go_end0
  exact ⟨rfl, rfl⟩
set_option maxRecDepth 100000 in
set_option maxHeartbeats 2000000 in
theorem pdq_none (p : Option Addr) (cap : Nat) (lim : Int) (fv : Value) (w : World) :
    Calls Try.prog 105 #[.slice p 0 cap, .int .i64 0, .int .i64 0, .int .i64 lim, fv] w fun e w' => e = .returned (.tuple #[]) ∧ w' = w := by
  have hi := fun W => insSort_none p cap fv W
  go_enter Try.func105, Try.ntmps105
  go_wp2
  refine wp_loop_rounds 1 ?_
  rw [rounds_succ]
  go_wp2_with (go_at_call 108; go_must (refine (hi _).mono ?_; rintro e w' ⟨rfl, rfl⟩))
  (try simp only [Exit.inBlock, Exit.then]); refine bodyPost_ret (results_none rfl _ _ _) rfl ?_
  exact ⟨rfl, rfl⟩
set_option maxRecDepth 100000 in
set_option maxHeartbeats 2000000 in
theorem sort_none (p : Option Addr) (cap : Nat) (fv : Value) (w : World) :
    Calls Try.prog 91 #[.slice p 0 cap, fv] w fun e w' => e = .returned (.tuple #[]) ∧ w' = w := by
  have hl := bits_Len_x 0 w (by omega) (by omega)
  have hp := fun W => pdq_none p cap (Lib.bitLen (0 : Int).toNat : Nat) fv W
  go_enter Try.func91, Try.ntmps91
  go_wp2_with (first | (go_at_call 106; go_must (refine hl.mono ?_; rintro e w' ⟨rfl, rfl⟩)) | (go_at_call 105; go_must (refine (hp _).mono ?_; rintro e w' ⟨rfl, rfl⟩)))
  go_end0
  exact ⟨rfl, rfl⟩
set_option maxRecDepth 100000 in
set_option maxHeartbeats 2000000 in
theorem sort_some {X : SC} {d : Array Nat} {w : World} (S : SX X d w) (hsz : d.size ≤ 100000) :
    Calls Try.prog 91 #[.slice (some ⟨X.blk, 0, none⟩) d.size X.cap, .func (.func 78) #[.pointer (some ⟨X.b.p, 0, none⟩)] #[]] w fun e w' => e = .returned (.tuple #[]) ∧ SX X (pdq (ltOf X.cf) d 0 d.size (Lib.bitLen d.size) true true) w' := by
  have hlim : Lib.bitLen d.size < 4611686018427387904 := Nat.lt_of_le_of_lt (Lib.bitLen_le d.size 62 (by omega) (by omega)) (by omega)
  have hp := fun w S => pdqsortCmpFunc_all_x (X := X) (cf_swo X) (d.size + 1) 0 d.size (Lib.bitLen d.size) d w (by omega) S (Nat.zero_le _) (Nat.le_refl _) (by omega) hlim (Or.inl rfl)
  have hl : Calls Try.prog 106 #[.int .u64 (d.size : Int)] w fun e w' => e = .returned (.int .i64 (Lib.bitLen d.size : Nat)) ∧ w' = w := by
    have h := bits_Len_x (d.size : Int) w (by omega) (by omega)
    rwa [Int.toNat_natCast] at h
  have wr : IntKind.u64.wrap (d.size : Int) = d.size := by simp [IntKind.wrap, IntKind.bits, IntKind.signed]; omega
  have HP := Sealed.mk (hp w S); clear hp S
  go_enter Try.func91, Try.ntmps91
  go_wp2_with (first | (go_at_call 106; go_must (refine hl.mono ?_; rintro e w' ⟨rfl, rfl⟩)) | (go_at_call 105; go_must (refine HP.out.mono ?_; rintro e w' ⟨rfl, hS⟩)))
  go_end0
  exact ⟨rfl, hS⟩
theorem icells_length (l : List Nat) : (icells l).length = l.length := by simp [icells]
theorem sort_any {w : World} {b : WB} {vs U : List Int} (h : WInv w b vs U) {B : Nat} {v : Value} {xs : List Nat} (hown : w.ownsRow B 3 1 v xs.length (icells xs)) (hlt : ∀ i ∈ xs, i < vs.length) (hd : xs.Nodup) (hn : xs.length ≤ 100000)
    (hv : ∀ k, v.ownBlock = some k → WFree w b vs k) :
    Calls Try.prog 91 #[v, .func (.func 78) #[.pointer (some ⟨b.p, 0, none⟩)] #[]] w fun e w' => e = .returned (.tuple #[]) ∧ WInv w' b vs U ∧ Ext (fun k => k = b.r3 ∨ v.ownBlock = some k) w w' ∧
      ∃ ys : List Nat, ys.Perm xs ∧ Rising vs ys ∧ w'.ownsRow B 3 1 v ys.length (icells ys) := by
  obtain ⟨a, c, rfl⟩ := own_slice hown
  by_cases h0 : xs.length = 0
  · have hx : xs = [] := List.eq_nil_of_length_eq_zero h0
    subst hx
    refine (sort_none a c _ w).mono ?_
    rintro e w' ⟨rfl, rfl⟩
    exact ⟨rfl, h, Ext.refl _ _, [], List.Perm.refl _, List.Pairwise.nil, hown⟩
  · obtain ⟨g, cap, e1⟩ := own_form hown (by omega)
    obtain ⟨rfl, _, rfl⟩ := Value.slice.inj e1
    have hg := own_block hown g rfl
    let X : SC := ⟨w, b, vs, U, g, B, c⟩
    have hget : ∀ i, i < xs.toArray.size → xs.toArray[i]! < vs.length := fun i hi => by
      have hi' : i < xs.length := by simpa using hi
      have : xs.toArray[i]! = xs[i] := by simp [hi']
      rw [this]
      exact hlt _ (List.getElem_mem hi')
    have S : SX X xs.toArray w := ⟨h, hg.2, h, Ext.refl _ _, hv g rfl, by simpa using hown, hget⟩
    have hs := sort_some S (by simpa using hn)
    have e2 : xs.toArray.size = xs.length := by simp
    rw [e2] at hs
    refine Calls.mono hs ?_
    rintro e w' ⟨rfl, S'⟩
    have hp := pdq_sorts (ltOf X.cf) (cf_swo X) xs.toArray 0 xs.length (Lib.bitLen xs.length) true true (Nat.zero_le _) (by simp) (Or.inl rfl)
    obtain ⟨⟨p1, -, p2⟩, p3⟩ := hp
    generalize pdq (ltOf X.cf) xs.toArray 0 xs.length (Lib.bitLen xs.length) true true = d' at S' p1 p2 p3
    have hsz : d'.size = xs.length := by rw [p1]; simp
    have hperm : d'.toList.Perm xs := by
      have e3 : d'.extract 0 xs.length = d' := by rw [← hsz]; simp
      have e4 : xs.toArray.extract 0 xs.length = xs.toArray := by rw [← e2]; simp
      rw [e3, e4] at p2
      simpa using p2
    refine ⟨rfl, S'.inv, S'.ext.imp fun k hk => .inl ?_, d'.toList, hperm, ?_, ?_⟩
    · rcases hk with e | e
      · exact .inl e
      · exact .inr (by rw [e]; rfl)
    · have hnd : d'.toList.Nodup := hperm.nodup_iff.2 hd
      unfold Rising
      rw [List.pairwise_iff_getElem]
      intro i j hi hj hij x y hx hy
      have hi' : i < d'.size := by simpa using hi
      have hj' : j < d'.size := by simpa using hj
      have hs := p3 i j (Nat.zero_le _) hij (by omega)
      have ei : d'[i]! = d'.toList[i] := by simp [hi']
      have ej : d'[j]! = d'.toList[j] := by simp [hj']
      rw [ei, ej] at hs
      have hle : x ≤ y := by
        unfold ltOf SC.cf at hs
        have kx : X.vs.getD d'.toList[i] 0 = x := by rw [List.getD_eq_getElem?_getD]; show (vs[d'.toList[i]]?).getD 0 = x; rw [hx]; rfl
        have ky : X.vs.getD d'.toList[j] 0 = y := by rw [List.getD_eq_getElem?_getD]; show (vs[d'.toList[j]]?).getD 0 = y; rw [hy]; rfl
        rw [kx, ky, decide_eq_false_iff_not] at hs
        unfold sg at hs
        by_cases q : y - x < 0
        · rw [if_pos q] at hs; omega
        · omega
      have hne : x ≠ y := by
        intro e
        subst e
        have h1 := List.getElem?_eq_some_iff.1 hx
        have h2 := List.getElem?_eq_some_iff.1 hy
        obtain ⟨l1, g1⟩ := h1
        obtain ⟨l2, g2⟩ := h2
        have hvn := h.cl.nodup
        have e5 : d'.toList[i] = d'.toList[j] := by
          have q1 := hvn.idxOf_getElem _ l1
          have q2 := hvn.idxOf_getElem _ l2
          rw [g1] at q1
          rw [g2] at q2
          exact q1.symm.trans q2
        have e6 : i = j := by
          have q1 := hnd.idxOf_getElem _ hi
          have q2 := hnd.idxOf_getElem _ hj
          rw [e5] at q1
          exact q1.symm.trans q2
        omega
      omega
    · have := S'.own
      rw [hsz] at this
      have e7 : d'.toList.length = xs.length := by simpa using hsz
      rw [e7]
      exact this
end Go.Proofs.Ytgchfbfgjanaiaa

namespace Go.Proofs.Ytgchfbfgjanaiaa
open Go.RowKit Sr
def encL (vs : List Int) (l : List T) : List (Bool × Nat) := l.map fun t => (t.1, vs.idxOf (t.2 : Int))
theorem tmod_two {x : Int} : x.tmod 2 = 0 ↔ x % 2 = 0 :=
  ⟨fun h => Int.emod_eq_zero_of_dvd (Int.dvd_of_tmod_eq_zero h), fun h => Int.tmod_eq_zero_of_dvd (Int.dvd_of_emod_eq_zero h)⟩
theorem tdiv_two {x : Int} (h : x % 2 = 0) : x.tdiv 2 = x / 2 := Int.tdiv_eq_ediv_of_dvd (Int.dvd_of_emod_eq_zero h)
theorem sign_test (X : Int) : (Int.tmod (wrap64 (Int.tmod X 4 + 4)) 4 == 3) = decide (X % 4 = 3) := by
  have h1 := Int.tmod_lt_of_pos X (show (0 : Int) < 4 by decide)
  have h2 := Int.lt_tmod_of_pos X (show (0 : Int) < 4 by decide)
  have h3 := Int.mul_tdiv_add_tmod X 4
  have h4 : wrap64 (Int.tmod X 4 + 4) = Int.tmod X 4 + 4 := by unfold wrap64; omega
  rw [h4, Int.tmod_eq_emod_of_nonneg (by omega)]
  by_cases h : X % 4 = 3
  · rw [decide_eq_true h, beq_iff_eq]; omega
  · rw [decide_eq_false h, beq_eq_false_iff_ne]; omega
theorem encL_form (vs : List Int) (x : Int) : encL vs (form x) = enc vs x := rfl
theorem encL_length (vs : List Int) (l : List T) : (encL vs l).length = l.length := by simp [encL]
theorem encL_prefix {v v' : List Int} (hp : v <+: v') {l : List T} (h : ∀ t ∈ l, (t.2 : Int) ∈ v) : encL v' l = encL v l := by
  unfold encL
  apply List.map_congr_left
  intro t ht
  rw [idxOf_prefix hp (h t ht)]
def NextOK (U : List Int) (p : Nat) : Prop := ∀ w b vs, WInv w b vs U → (p : Int) ∈ vs →
  Calls Try.prog 89 #[.pointer (some ⟨b.p, 0, none⟩), .int .i64 (vs.idxOf (p : Int) : Nat)] w fun e w' => ∃ vs' b', e = .returned (.int .i64 (vs'.idxOf ((p : Int) + 1) : Nat)) ∧ (p : Int) + 1 ∈ vs' ∧ WStep U w w' b b' vs vs' ∧ FStep noB w w' b b' vs vs'
theorem cntV_enc {vs : List Int} {l : List T} (hc : ∀ t ∈ l, (t.2 : Int) ∈ vs) {e : Nat} (he : (e : Int) ∈ vs) : cntV (encL vs l) (vs.idxOf (e : Int)) = cntV l e := by
  induction l with
  | nil => rfl
  | cons t l ih =>
    have ih := ih fun u hu => hc u (by simp [hu])
    have h1 : (vs.idxOf (t.2 : Int) = vs.idxOf (e : Int)) ↔ t.2 = e :=
      ⟨fun h => by have := idxOf_inj (hc t (by simp)) h; omega, fun h => by rw [h]⟩
    simp only [encL, List.map_cons, cntV] at ih ⊢
    rw [ih]
    by_cases h : t.2 = e
    · rw [if_pos h, if_pos (h1.2 h)]
    · rw [if_neg h, if_neg fun q => h (h1.1 q)]
def Ints (W : World) (g0 : Nat) (b1 : WB) (ev : Value) (l : List Nat) : Prop :=
  ∃ a cap, ev = .slice a l.length cap ∧ l.length ≤ cap ∧ (l ≠ [] → ∃ g off, a = some ⟨g, off, none⟩ ∧ Reads W g off (icells l) ∧ g < g0 ∧ ¬ b1.M g)
theorem Ints.move {W W' : World} {g0 : Nat} {b1 b2 : WB} {ev : Value} {l : List Nat} (h : Ints W g0 b1 ev l) (hb : ∀ k, k < g0 → ¬ b1.M k → W'.heap[k]? = W.heap[k]? ∧ ¬ b2.M k) : Ints W' g0 b2 ev l := by
  obtain ⟨a, cap, h1, h2, h3⟩ := h
  refine ⟨a, cap, h1, h2, fun hl => ?_⟩
  obtain ⟨g, off, e1, e2, e3, e4⟩ := h3 hl
  obtain ⟨k1, k2⟩ := hb g e3 e4
  exact ⟨g, off, e1, e2.same k1, e3, k2⟩
structure SI (U : List Int) (tl : List T) (E : List Nat) (cl : List (Int × Int)) (w0 : World) (b0 : WB) (vs0 : List Int) (m g0 : Nat) (k : Nat) (ev out cv pv : Value) (wr : World)
    (vs1 : List Int) (b1 : WB) (xs : List Nat) (carry : Int) (p : Nat) (o : List T) : Prop where
  mu : k = mu (cntV tl) xs carry p
  s : SInv (val tl) (cntV tl) xs carry p o
  l : LInv tl.length (cntV tl) E xs carry p
  cv : cv = .int .i64 carry
  pv : carry ≠ 0 → (p : Int) ∈ vs1 ∧ pv = .int .i64 (vs1.idxOf (p : Int) : Nat)
  step : WStep U w0 wr b0 b1 vs0 vs1
  emitted : ∀ t ∈ o, (t.2 : Int) ∈ vs1
  ev : Ints wr g0 b1 ev (xs.map fun e : Nat => vs0.idxOf (e : Int))
  cmap : MapIs (fun n : Int => Value.int .i64 n) wr m cl
  mfree : ¬ b1.M m
  mlt : m < g0
  gle : g0 ≤ wr.heap.size
  wle : w0.heap.size ≤ m
  own : wr.ownsRow g0 98 2 out o.length (tcells (encL vs1 o.reverse))
  free : ∀ k, out.ownBlock = some k → WFree wr b1 vs1 k
  fstep : FStep noB w0 wr b0 b1 vs0 vs1
  len : o.length + k ≤ 3 * tl.length + 1
theorem sorted_of {vs : List Int} {tl : List T} {ys : List Nat} (hcl : Cl vs) (hc : ∀ t ∈ tl, (t.2 : Int) ∈ vs) (hmem : ∀ i, i ∈ ys ↔ ∃ t ∈ encL vs tl, t.2 = i) (hr : Rising vs ys) :
    ∃ es : List Nat, ys = es.map (fun e : Nat => vs.idxOf (e : Int)) ∧ es.Pairwise (· < ·) ∧ ∀ e, e ∈ es ↔ ∃ t ∈ tl, t.2 = e := by
  have hval : ∀ i ∈ ys, ∃ t ∈ tl, vs.idxOf (t.2 : Int) = i := fun i hi => by
    obtain ⟨u, hu, rfl⟩ := (hmem i).1 hi
    obtain ⟨t, ht, rfl⟩ := List.mem_map.1 hu
    exact ⟨t, ht, rfl⟩
  have hget : ∀ i ∈ ys, ((vs.getD i 0).toNat : Int) ∈ vs ∧ vs.idxOf ((vs.getD i 0).toNat : Int) = i ∧ ∃ t ∈ tl, t.2 = (vs.getD i 0).toNat := fun i hi => by
    obtain ⟨t, ht, rfl⟩ := hval i hi
    have h1 := idxOf_get (hc t ht)
    have h2 : vs.getD (vs.idxOf (t.2 : Int)) 0 = (t.2 : Int) := by rw [List.getD_eq_getElem?_getD, h1]; rfl
    rw [h2]
    rw [Int.toNat_natCast]
    exact ⟨hc t ht, rfl, t, ht, rfl⟩
  refine ⟨ys.map fun i => (vs.getD i 0).toNat, ?_, ?_, ?_⟩
  · rw [List.map_map]
    symm
    calc ys.map _ = ys.map id := List.map_congr_left fun i hi => (hget i hi).2.1
      _ = ys := List.map_id ys
  · rw [List.pairwise_map]
    refine List.Pairwise.imp_of_mem ?_ hr
    intro i j hi hj h
    obtain ⟨i1, i2, _⟩ := hget i hi
    obtain ⟨j1, j2, _⟩ := hget j hj
    have e1 := idxOf_get i1
    have e2 := idxOf_get j1
    rw [i2] at e1
    rw [j2] at e2
    have := h _ _ e1 e2
    omega
  · intro e
    simp only [List.mem_map]
    constructor
    · rintro ⟨i, hi, rfl⟩
      exact (hget i hi).2.2
    · rintro ⟨t, ht, rfl⟩
      refine ⟨vs.idxOf (t.2 : Int), (hmem _).2 ⟨(t.1, vs.idxOf (t.2 : Int)), List.mem_map.2 ⟨t, ht, rfl⟩, rfl⟩, ?_⟩
      rw [List.getD_eq_getElem?_getD, idxOf_get (hc t ht)]
      simp
end Go.Proofs.Ytgchfbfgjanaiaa
