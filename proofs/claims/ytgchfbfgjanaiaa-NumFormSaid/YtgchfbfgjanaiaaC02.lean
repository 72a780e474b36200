/-
  sandreckonerlaw01: modest, made
  three numbers out of those that are made
  what the laws of law01 read: opened, and read again behind the call
  what the laws of law01 share
-/
import Derived.Test.YtgchfbfgjanaiaaC01
import Derived.ProofKit
import Derived.OpenShut
import Derived.WideKeyArgs
import Derived.Deep.Slices
set_option linter.unusedSimpArgs false
set_option linter.unusedVariables false
namespace Go.Proofs.Ytgchfbfgjanaiaa
open Go.RowKit Sr
set_option maxRecDepth 100000 in
set_option maxHeartbeats 1000000 in
theorem lawModest_any {w : World} {u : Value} {x : Int} (hx : NumIs w u x) : Calls Try.prog 81 #[u] w fun e w' => e = .returned (.bool (decide (wl x ≤ 40 ∧ weight x ≤ 120))) ∧ Below w.heap.size w w' := by
  obtain ⟨p, rfl⟩ := hx.ptr
  have S0 := (St.start w).new hx
  obtain ⟨W2, hW2⟩ : ∃ W2, W2 = w.alloc (.cells #[.pointer p] 30) := ⟨_, rfl⟩
  rw [← hW2] at S0
  have cx := S0.cell 0 rfl
  have S := Sealed.mk S0; clear S0 hx
  obtain ⟨n, hn⟩ : ∃ n, n = wl x := ⟨_, rfl⟩
  obtain ⟨m, hm⟩ : ∃ m, m = weight x := ⟨_, rfl⟩
  rw [← hn, ← hm]
  have HN := Sealed.mk (And.intro hn hm); clear hn hm
  go_enter Try.func81, Try.ntmps81
  go_upto_region 1 with fail
  rw [← hW2]
  clear hW2
  by_cases h1 : n ≤ 40
  · have h1' : (n : Int) ≤ 40 := by omega
    go_wp2_with (first
      | (go_at_call 41; go_must ((with_reducible refine (Terms_any (S.out.cnum 0 rfl)).mono ?_); rintro e w3 ⟨a3, c3, ts, rfl, -, hb3⟩; rw [← HN.out.1]; replace S := Sealed.mk (S.out.adv hb3); have cx3 := S.out.cell 0 rfl; clear hb3))
      | (go_at_call 44; go_must ((with_reducible refine (Weight_any (S.out.cnum 0 rfl)).mono ?_); rintro e w4 ⟨rfl, hb4⟩; rw [← HN.out.2]; replace S := Sealed.mk (S.out.adv hb4); clear hb4)))
    go_ret
    refine ⟨?_, S.out.below⟩
    show Ending.returned (.bool (decide ((m : Int) ≤ 120))) = _
    congr 2
    rw [Bool.eq_iff_iff]
    simp [h1]
    try omega
  · have h1' : ¬ (n : Int) ≤ 40 := by omega
    go_wp2_with (first
      | (go_at_call 41; go_must ((with_reducible refine (Terms_any (S.out.cnum 0 rfl)).mono ?_); rintro e w3 ⟨a3, c3, ts, rfl, -, hb3⟩; rw [← HN.out.1]; replace S := Sealed.mk (S.out.adv hb3); have cx3 := S.out.cell 0 rfl; clear hb3)))
    go_ret
    refine ⟨?_, S.out.below⟩
    first | rfl | exact congrArg (fun b => Ending.returned (.bool b)) (decide_eq_false (by omega)).symm
def OpsAt (w : World) (v : Value) (ops : List (Int × Int × Int × Int)) : Prop :=
  ∃ a c, v = .slice a ops.length c ∧ ops.length ≤ c ∧ (∀ t ∈ ops, Is64 t.2.2.2) ∧ (ops ≠ [] → ∃ b o, a = some ⟨b, o, none⟩ ∧ b < w.heap.size ∧ ∀ (i : Nat) (t : Int × Int × Int × Int), ops[i]? = some t →
    w.cell? ⟨b, o + i * 4, none⟩ = some (.int .i64 t.1) ∧ w.cell? ⟨b, o + i * 4 + 1, none⟩ = some (.int .i64 t.2.1) ∧ w.cell? ⟨b, o + i * 4 + 2, none⟩ = some (.int .i64 t.2.2.1) ∧ w.cell? ⟨b, o + i * 4 + 3, none⟩ = some (.int .i64 t.2.2.2))
def MadeK (k : Nat) (zs : List Int) : Prop := 3 ≤ zs.length ∧ zs.length ≤ 3 + k ∧ ∀ z ∈ zs, wl z ≤ 40 ∧ weight z ≤ 120
def MadeL (zs : List Int) : Prop := 3 ≤ zs.length ∧ zs.length ≤ 27 ∧ ∀ z ∈ zs, wl z ≤ 40 ∧ weight z ≤ 120
theorem MadeK.done {k : Nat} {zs : List Int} (h : MadeK k zs) (hk : k ≤ 24) : MadeL zs := ⟨h.1, by have := h.2.1; omega, h.2.2⟩
theorem MadeK.next {k : Nat} {zs : List Int} (h : MadeK k zs) : MadeK (k + 1) zs := ⟨h.1, by have := h.2.1; omega, h.2.2⟩
theorem MadeK.push {k : Nat} {zs : List Int} (h : MadeK k zs) {z : Int} (hz : wl z ≤ 40 ∧ weight z ≤ 120) : MadeK (k + 1) (zs ++ [z]) := ⟨by have := h.1; simp; omega, by have := h.2.1; simp; omega, fun y hy => by
  rcases List.mem_append.1 hy with hy | hy
  · exact h.2.2 y hy
  · obtain rfl := List.mem_singleton.1 hy; exact hz⟩
theorem modest_small {x : Int} (h : x.natAbs ≤ 2 ^ 63) (hn : x.natAbs ≤ 30) : wl x ≤ 40 ∧ weight x ≤ 120 := by
  refine ⟨?_, ?_⟩
  · have := form_length_le (x := x) (n := 40) fun e he => by have := exps_lt he; omega
    exact this
  · have := plist_small h
    unfold weight
    omega
set_option maxRecDepth 100000 in
set_option maxHeartbeats 1000000 in
theorem lawMade_any {w : World} {v : Value} {ops : List (Int × Int × Int × Int)} (h : OpsAt w v ops) : Calls Try.prog 40 #[v] w fun e w' => ∃ a c zs ps, e = .returned (.slice a zs.length c) ∧ NsOwn w' w.heap.size (.slice a zs.length c) zs ps ∧ MadeL zs ∧ Below w.heap.size w w' := by
  obtain ⟨av, cv, rfl, hcv, h64, hcells⟩ := h
  obtain ⟨n, hn⟩ : ∃ n, n = ops.length := ⟨_, rfl⟩
  rw [← hn] at hcv ⊢
  have hof0 := fun W => Of_one (n := 0) (by unfold Is64; decide) W
  have hof1 := fun W => Of_one (n := 1) (by unfold Is64; decide) W
  have hof2 := fun W => Of_one (n := 2) (by unfold Is64; decide) W
  have HOF := Sealed.mk (And.intro hof0 (And.intro hof1 hof2)); clear hof0 hof1 hof2
  have H := Sealed.mk (And.intro hn (And.intro h64 hcells)); clear hn h64 hcells
  go_enter Try.func40, Try.ntmps40
  go_upto_region 2 with (go_at_call 21; go_must (first
    | ((with_reducible refine (HOF.out.1 _).mono ?_); rintro e w1 ⟨p1, rfl, hb, hn⟩; have S := Sealed.mk ((St.start w).res hb hn); clear hb hn)
    | ((with_reducible refine (HOF.out.2.1 _).mono ?_); rintro e w2 ⟨p2, rfl, hb, hn⟩; replace S := Sealed.mk (S.out.res hb hn); clear hb hn)
    | ((with_reducible refine (HOF.out.2.2 _).mono ?_); rintro e w3 ⟨p3, rfl, hb, hn⟩; replace S := Sealed.mk (S.out.res hb hn); clear hb hn)))
  obtain ⟨W3, hW3⟩ : ∃ W3, W3 = w3.alloc (.cells #[.pointer p1, .pointer p2, .pointer p3] 30) := ⟨_, rfl⟩
  have b3 : Below w3.heap.size w3 W3 := by rw [hW3]; exact below_new _ _
  have ho : W3.ownsRow w.heap.size 30 1 (.slice (some ⟨w3.heap.size, 0, none⟩) 3 3) 3 [.pointer p1, .pointer p2, .pointer p3] := by
    have := World.ownsRow_lit (base := w.heap.size) (e := 30) (size := 1) w3 #[.pointer p1, .pointer p2, .pointer p3] 3 S.out.below.size (by decide) rfl
    rw [← hW3] at this
    exact this
  have hns : NsOwn W3 w.heap.size (.slice (some ⟨w3.heap.size, 0, none⟩) 3 3) [0, 1, 2] [p1, p2, p3] := ⟨ho, rfl, fun i p x hp hx => by
    match i with
    | 0 => simp at hp hx; subst hp; subst hx; exact (S.out.adv b3).num 2 rfl
    | 1 => simp at hp hx; subst hp; subst hx; exact (S.out.adv b3).num 1 rfl
    | 2 => simp at hp hx; subst hp; subst hx; exact (S.out.adv b3).num 0 rfl
    | i + 3 => simp at hp⟩
  have hmd : MadeK 0 [0, 1, 2] := ⟨by decide, by decide, fun z hz => by
    simp at hz
    rcases hz with rfl | rfl | rfl <;> exact modest_small (by decide) (by decide)⟩
  have H0 := Sealed.mk (And.intro hns (And.intro hmd (S.out.adv b3).below)); clear hns hmd ho b3 S
  rw [← hW3]
  clear hW3
  go_wp2_with fail
  go_loopg [3, 4] 24 (fun jj lv iv W => ∃ (k lz : Nat) (la : Option Addr) (lc : Nat) (zs : List Int) (ps : List (Option Addr)), jj = 24 - k ∧ k ≤ 24 ∧ k ≤ n ∧ iv = .int .i64 (k : Int) ∧ lv = .slice la lz lc ∧ Sealed (zs.length = lz ∧ NsOwn W w.heap.size (.slice la lz lc) zs ps ∧ MadeK k zs ∧ Below w.heap.size w W))
  case atStart => exact ⟨0, 3, _, 3, [0, 1, 2], [p1, p2, p3], rfl, by omega, by omega, rfl, rfl, ⟨rfl, H0.out⟩⟩
  case round =>
    obtain ⟨k, lz, la, lc, zs, ps, rfl, hk, hkn, rfl, rfl, HR⟩ := hrel
    by_cases hlt : k < n ∧ k < 24
    · obtain ⟨h1, h2⟩ := hlt
      obtain ⟨⟨kd, a, b, nn⟩, ht⟩ : ∃ t, ops[k]? = some t := ⟨_, List.getElem?_eq_getElem (by have := H.out.1; omega)⟩
      obtain ⟨bb, oo, rfl, hbb, hcl⟩ := H.out.2.2 (by intro e; rw [e] at ht; simp at ht)
      obtain ⟨c0, c1, c2, c3⟩ := hcl k _ ht
      have hn64 : Is64 nn := H.out.2.1 _ (List.mem_of_getElem? ht)
      have hsame := fun i => cell_same (HR.out.2.2.2.block _ hbb) i
      rw [← hsame] at c0 c1 c2 c3
      have hzl : zs ≠ [] := by intro e; have := HR.out.2.2.1.1; rw [e] at this; simp at this
      have hca := lawCalled_any (w := wr) (kd := kd) (a := a) (b := b) (n := nn) (HR.out.2.1.at_) hzl (by have := HR.out.2.2.1.2.1; omega) hn64
      have HCA := Sealed.mk hca
      have h1' : (k : Int) < n := by omega
      have h2' : (k : Int) < 24 := by omega
      clear hca hcl hsame ht hzl hn64 hbb
      go_upto_region 6 with (go_at_call 80; go_must (refine HCA.out.mono ?_; rintro e w4 ⟨p4, rfl, hb4, hn4⟩; have H4 := Sealed.mk (And.intro hb4 hn4); clear hb4 hn4))
      obtain ⟨r, hr⟩ : ∃ r, r = callR zs kd a b nn := ⟨_, rfl⟩
      rw [← hr]
      have H4' := H4.out
      rw [← hr] at H4'
      clear H4 hr HCA c0 c1 c2 c3
      obtain ⟨z, er⟩ := r
      obtain ⟨W5, hW5⟩ : ∃ W5, W5 = w4.alloc (.cells #[.pointer p4] 30) := ⟨_, rfl⟩
      have b5 : Below wr.heap.size wr W5 := by rw [hW5]; exact below_chain H4'.1 (below_new _ _)
      have n5 : NumIs W5 (.agg #[.pointer p4]) z := by rw [hW5]; exact H4'.2.below (below_new _ _)
      have c5 : W5.cell? ⟨w4.heap.size, 0, none⟩ = some (.pointer p4) := by rw [hW5]; exact (cell_of_blk (blk_alloc _ _) 0).trans rfl
      rw [← hW5]
      have H5 := Sealed.mk (And.intro b5 n5); clear b5 n5 hW5 H4'
      by_cases he : er = 0
      · subst he
        obtain ⟨md, hmd⟩ : ∃ md, md = decide (wl z ≤ 40 ∧ weight z ≤ 120) := ⟨_, rfl⟩
        have HMD := Sealed.mk hmd; clear hmd
        go_upto_if 35 with (go_at_call 81; go_must ((with_reducible refine (lawModest_any H5.out.2).mono ?_); rintro e w6 ⟨rfl, hb6⟩; rw [← HMD.out]; have H6 := Sealed.mk (And.intro (below_chain H5.out.1 hb6) (H5.out.2.below hb6)); have c6 : w6.cell? ⟨w4.heap.size, 0, none⟩ = some (.pointer p4) := (cell_same (hb6.block _ (lt_of_cell c5)) 0).trans c5; clear hb6))
        clear c5
        cases md with
        | true =>
          have hns6 := HR.out.2.1
          rw [← HR.out.1] at hns6
          replace hns6 := hns6.below H6.out.1
          have hown6 := hns6.own
          rw [HR.out.1] at hown6
          have HN6 := Sealed.mk (And.intro hns6 hown6); clear hns6 hown6
          have hw6 : w.heap.size ≤ w6.heap.size := (below_chain HR.out.2.2.2 H6.out.1).size
          have hlz : lz + 1 ≤ 1000000000 := by have := HR.out.2.2.1.2.1; have := HR.out.1; omega
          go_wp2_with (at_builtin; go_must (refine ap_litp (m := 1) el_N (.tmp 36) (.tmp 38) rfl rfl rfl HN6.out.2 rfl (by simp) rfl (by decide) ?g1 ?g2 ?g3 ?g4))
          case g1 => simp [Value.oneCell']
          case g2 => exact hlz
          case g3 => exact hw6
          case g4 =>
            intro g7 c7 w7 ho7 hg7 hn7
            have H7 := Sealed.mk (And.intro ho7 hg7); clear ho7 hg7 hn7
            go_wp2_with fail
            go_roundg (24 - (k + 1))
            case measure => omega
            case rel =>
              refine ⟨k + 1, lz + 1, _, _, zs ++ [z], ps ++ [p4], rfl, by omega, by omega, by push_cast; rfl, rfl, ⟨by simp [HR.out.1], ?_, HR.out.2.2.1.push (of_decide_eq_true HMD.out.symm), ?_⟩⟩
              · exact HN6.out.1.push (Below.refl _ _) HR.out.1.symm H6.out.2 (by rw [HR.out.1]; exact H7.out.2) H7.out.1
              · have h1 := below_chain HR.out.2.2.2 H6.out.1
                exact h1.grown H7.out.2 h1.size (fun q hq => own_ge HN6.out.2 q hq)
        | false =>
          go_wp2_with fail
          go_roundg (24 - (k + 1))
          case measure => omega
          case rel =>
            refine ⟨k + 1, lz, _, _, zs, ps, rfl, by omega, by omega, by push_cast; rfl, rfl, ⟨HR.out.1, ?_, HR.out.2.2.1.next, below_chain HR.out.2.2.2 H6.out.1⟩⟩
            have := HR.out.2.1
            exact this.below H6.out.1
      · go_wp2_with fail
        go_roundg (24 - (k + 1))
        case measure => omega
        case rel =>
          refine ⟨k + 1, lz, _, _, zs, ps, rfl, by omega, by omega, by push_cast; rfl, rfl, ⟨HR.out.1, ?_, HR.out.2.2.1.next, below_chain HR.out.2.2.2 H5.out.1⟩⟩
          exact HR.out.2.1.below H5.out.1
    · have hw4 : ¬ ((k : Int) < n ∧ (k : Int) < 24) := by omega
      by_cases h1 : k < n
      · have h1' : (k : Int) < n := by omega
        have h2' : ¬ (k : Int) < 24 := by omega
        go_wp2_with fail
        go_ret
        have f1 : Value.slice la lz lc = .slice la zs.length lc := by rw [HR.out.1]
        have f2 : NsOwn wr w.heap.size (.slice la zs.length lc) zs ps := by rw [HR.out.1]; exact HR.out.2.1
        first
          | exact ⟨la, lc, zs, ps, congrArg Ending.returned f1, f2, HR.out.2.2.1.done hk, HR.out.2.2.2⟩
          | exact ⟨la, lc, zs, congrArg Ending.returned f1, ⟨ps, f2⟩, HR.out.2.2.1.done hk, HR.out.2.2.2⟩
      · have h1' : ¬ (k : Int) < n := by omega
        go_wp2_with fail
        go_ret
        have f1 : Value.slice la lz lc = .slice la zs.length lc := by rw [HR.out.1]
        have f2 : NsOwn wr w.heap.size (.slice la zs.length lc) zs ps := by rw [HR.out.1]; exact HR.out.2.1
        first
          | exact ⟨la, lc, zs, ps, congrArg Ending.returned f1, f2, HR.out.2.2.1.done hk, HR.out.2.2.2⟩
          | exact ⟨la, lc, zs, congrArg Ending.returned f1, ⟨ps, f2⟩, HR.out.2.2.1.done hk, HR.out.2.2.2⟩
end Go.Proofs.Ytgchfbfgjanaiaa

namespace Go.Proofs.Ytgchfbfgjanaiaa
open Go.RowKit Sr
theorem OpsAt.below {w w1 : World} {v : Value} {ops : List (Int × Int × Int × Int)} (h : OpsAt w v ops) (e : Below w.heap.size w w1) : OpsAt w1 v ops := by
  obtain ⟨a, c, rfl, h1, h2, h3⟩ := h
  refine ⟨a, c, rfl, h1, h2, fun hne => ?_⟩
  obtain ⟨b, o, rfl, hb, h4⟩ := h3 hne
  refine ⟨b, o, rfl, Nat.lt_of_lt_of_le hb e.size, fun i t ht => ?_⟩
  obtain ⟨c0, c1, c2, c3⟩ := h4 i t ht
  have hs := fun q => cell_same (e.block b hb) q
  exact ⟨(hs _).trans c0, (hs _).trans c1, (hs _).trans c2, (hs _).trans c3⟩
theorem gv_two (z : Int) : ∃ u e, gv z = (u, e) ∧ ((e = 0 ∧ u = z) ∨ (e = 5 ∧ u = 0)) := by
  by_cases h : Allowed z
  · exact ⟨z, 0, gv_ok h, .inl ⟨rfl, rfl⟩⟩
  · exact ⟨0, 5, gv_no h, .inr ⟨rfl, rfl⟩⟩
def Mod (x : Int) : Prop := Allowed x ∧ wl x ≤ 40 ∧ weight x ≤ 120
theorem pick_three {w W1 W2 : World} {av : Option Addr} {cv : Nat} {zs : List Int} {ps : List (Option Addr)} {a0 a1 a2 : Int} (hb1 : Below w.heap.size w W1) (hz1 : W1.heap[w.heap.size]? = some (.cells #[.int .i64 a0, .int .i64 a1, .int .i64 a2] 75 (0, 0)))
    (hns : NsOwn W2 W1.heap.size (.slice av zs.length cv) zs ps) (hml : MadeL zs) (hb2 : Below W1.heap.size W1 W2) (b0 b1 b2 : Int) :
    ∃ (x y z : Int) (px py pz : Option Addr) (bb oo m i j k : Nat), av = some ⟨bb, oo, none⟩ ∧ m = zs.length ∧ m ≤ cv ∧ i < m ∧ j < m ∧ k < m ∧
      (∀ W, Calls Try.prog 46 #[.int .i64 b0, .int .i64 (m : Int)] W fun e w' => e = .returned (.int .i64 (i : Int)) ∧ w' = W) ∧
      (∀ W, Calls Try.prog 46 #[.int .i64 b1, .int .i64 (m : Int)] W fun e w' => e = .returned (.int .i64 (j : Int)) ∧ w' = W) ∧
      (∀ W, Calls Try.prog 46 #[.int .i64 b2, .int .i64 (m : Int)] W fun e w' => e = .returned (.int .i64 (k : Int)) ∧ w' = W) ∧
      (∀ W, Below W2.heap.size W2 W → W.cell? ⟨w.heap.size, 0, none⟩ = some (.int .i64 a0) ∧ W.cell? ⟨w.heap.size, 1, none⟩ = some (.int .i64 a1) ∧ W.cell? ⟨w.heap.size, 2, none⟩ = some (.int .i64 a2) ∧ W.cell? ⟨bb, oo + i, none⟩ = some (.pointer px) ∧ W.cell? ⟨bb, oo + j, none⟩ = some (.pointer py) ∧ W.cell? ⟨bb, oo + k, none⟩ = some (.pointer pz)) ∧
      St w W2 [] [] ∧ NumIs W2 (.agg #[.pointer px]) x ∧ NumIs W2 (.agg #[.pointer py]) y ∧ NumIs W2 (.agg #[.pointer pz]) z ∧ Mod x ∧ Mod y ∧ Mod z := by
  have hpos : 0 < zs.length := by have := hml.1; omega
  have hle : zs.length ≤ 100000 := by have := hml.2.1; omega
  obtain ⟨i, hi, -, hr1⟩ := lawRest_pick b0 hpos hle
  obtain ⟨j, hj, -, hr2⟩ := lawRest_pick b1 hpos hle
  obtain ⟨k, hk, -, hr3⟩ := lawRest_pick b2 hpos hle
  obtain ⟨bb, oo, c, px, x, e1, hc, hbb, hx, hcx, hnx⟩ := hns.at_.pick hi
  obtain ⟨bb', oo', c', py, y, e2, -, -, hy, hcy, hny⟩ := hns.at_.pick hj
  obtain ⟨bb'', oo'', c'', pz, z, e3, -, -, hz, hcz, hnz⟩ := hns.at_.pick hk
  obtain ⟨rfl, -, rfl⟩ := Value.slice.inj e1
  obtain ⟨e2', -, -⟩ := Value.slice.inj e2
  obtain ⟨e3', -, -⟩ := Value.slice.inj e3
  obtain ⟨rfl, rfl⟩ : bb = bb' ∧ oo = oo' := by simpa using e2'
  obtain ⟨rfl, rfl⟩ : bb = bb'' ∧ oo = oo'' := by simpa using e3'
  have z2 := (hb2.block _ (lt_of_blk hz1)).trans hz1
  refine ⟨x, y, z, px, py, pz, bb, oo, zs.length, i, j, k, rfl, rfl, hc, hi, hj, hk, hr1, hr2, hr3, fun W hb => ?_, (St.start w).adv (below_chain hb1 hb2), hnx, hny, hnz, ⟨hnx.1, hml.2.2 x (List.mem_of_getElem? hx)⟩, ⟨hny.1, hml.2.2 y (List.mem_of_getElem? hy)⟩, ⟨hnz.1, hml.2.2 z (List.mem_of_getElem? hz)⟩⟩
  have z3 := (hb.block _ (lt_of_blk z2)).trans z2
  have hs := fun q => cell_same (hb.block _ hbb) q
  exact ⟨(cell_of_blk z3 0).trans rfl, (cell_of_blk z3 1).trans rfl, (cell_of_blk z3 2).trans rfl, (hs _).trans hcx, (hs _).trans hcy, (hs _).trans hcz⟩
end Go.Proofs.Ytgchfbfgjanaiaa

namespace Go.Proofs.Ytgchfbfgjanaiaa.RowK
open Go.ChangeShapes Go.WideShapes Go.ChangeAt Go.RowKit Sr
set_option linter.unusedVariables false
theorem laid : laidOutB Try.prog = true := by kernel_rfl
theorem wf64 {n : Int} (h : (Lit.int .i64 n).wf = true) : Is64 n := by
  have := h
  simp [Lit.wf, go_sem] at this
  exact this
theorem mapM_all {α β : Type} {f : α → Option β} : ∀ {l : List α} {xs : List β}, l.mapM f = some xs → ∀ a ∈ l, ∃ y, f a = some y
  | [], _, _, a, ha => by simp at ha
  | b :: l, xs, h, a, ha => by
    rw [List.mapM_cons] at h
    cases h1 : f b with
    | none => simp [h1] at h
    | some y =>
      cases h2 : l.mapM f with
      | none => simp [h1, h2] at h
      | some ys =>
        rcases List.mem_cons.1 ha with rfl | ha
        · exact ⟨y, h1⟩
        · exact mapM_all h2 a ha
section
variable {H : Type} {enc : TypeId × Value → H} {W : World} {base : Nat} {sp : Nat → Bool} {held : Bool}
theorem cells_op : Try.prog.cellsOf 131 = 4 := by kernel_rfl
theorem cells_i : Try.prog.cellsOf 3 = 1 := by kernel_rfl
theorem cells_i64 : Try.prog.cellsOf 2 = 1 := by kernel_rfl
set_option maxRecDepth 100000 in
theorem open_op {n : Nat} {cs : List Value} {x : DataW H × List MemPlace} (h : DataW.trod enc Try.prog W base sp held n 131 cs = some x) :
    ∃ kd a b nn : Int, cs = [.int .i64 kd, .int .i64 a, .int .i64 b, .int .i64 nn] ∧ Is64 nn := by
  cases n with
  | zero => simp [DataW.trod] at h
  | succ n =>
    unfold DataW.trod at h
    rw [Try.underlying131] at h
    simp only at h
    split at h
    · rename_i hl
      obtain ⟨xs, hxs, rfl⟩ := Option.map_eq_some_iff.1 h
      rw [cells_op] at hl
      match cs, hl with
      | [c0, c1, c2, c3], _ =>
        obtain ⟨y0, h0⟩ := mapM_all hxs _ (List.mem_of_getElem? (i := 0) rfl)
        obtain ⟨y1, h1⟩ := mapM_all hxs _ (List.mem_of_getElem? (i := 1) rfl)
        obtain ⟨y2, h2⟩ := mapM_all hxs _ (List.mem_of_getElem? (i := 2) rfl)
        obtain ⟨y3, h3⟩ := mapM_all hxs _ (List.mem_of_getElem? (i := 3) rfl)
        simp only [cells_i, cells_i64] at h0 h1 h2 h3
        obtain ⟨kd, e0, -, -⟩ := DataW.trod_int Try.underlying3 h0
        obtain ⟨a, e1, -, -⟩ := DataW.trod_int Try.underlying3 h1
        obtain ⟨b, e2, -, -⟩ := DataW.trod_int Try.underlying3 h2
        obtain ⟨nn, e3, -, hw⟩ := DataW.trod_int Try.underlying2 h3
        simp at e0 e1 e2 e3
        subst e0 e1 e2 e3
        exact ⟨kd, a, b, nn, rfl, wf64 hw⟩
    · exact absurd h (by simp)
theorem add_off (b o i : Nat) : (⟨b, o, none⟩ : Addr).add i = ⟨b, o + i, none⟩ := by unfold Addr.add; split <;> simp_all
theorem open_ops {v : Value} {d : DataW H} {p : List MemPlace} (hv : ∃ a n c, v = .slice a n c) (h : DataW.Trod enc Try.prog W 0 (fun _ => true) true 67 v d p) : ∃ ops, OpsAt W v ops := by
  obtain ⟨a, n, c, rfl⟩ := hv
  obtain ⟨fuel, h⟩ := h
  rcases Go.Deep.open_slice Try.underlying67 h with ⟨e, -⟩ | ⟨a', len, cap, m, k, D, Pl, e, -, hl, hm, hmc, -, hel⟩
  · simp [Value.cells] at e
    obtain ⟨rfl, rfl, rfl⟩ := e
    exact ⟨[], none, 0, rfl, Nat.le_refl _, fun t ht => by simp at ht, fun hne => absurd rfl hne⟩
  · simp [Value.cells] at e
    obtain ⟨rfl, rfl, rfl⟩ := e
    simp only [if_true] at hmc
    subst hmc
    rw [cells_op] at hel
    have key : ∀ i, i < n → ∃ t : Int × Int × Int × Int, Is64 t.2.2.2 ∧ a'.spot = none ∧ a'.block < W.heap.size ∧ W.cell? ⟨a'.block, a'.off + i * 4, none⟩ = some (.int .i64 t.1) ∧ W.cell? ⟨a'.block, a'.off + i * 4 + 1, none⟩ = some (.int .i64 t.2.1) ∧ W.cell? ⟨a'.block, a'.off + i * 4 + 2, none⟩ = some (.int .i64 t.2.2.1) ∧ W.cell? ⟨a'.block, a'.off + i * 4 + 3, none⟩ = some (.int .i64 t.2.2.2) := fun i hi => by
      obtain ⟨cs, h1, h2⟩ := hel i (by omega)
      obtain ⟨kd, x, y, nn, rfl, h64⟩ := open_op h2
      obtain ⟨-, -, hc⟩ := World.cells?_some h1
      have c0 := hc 0 (by decide)
      have c1 := hc 1 (by decide)
      have c2 := hc 2 (by decide)
      have c3 := hc 3 (by decide)
      have hsp : (a'.add (i * 4)).spot = none := World.cell?_spot (by simpa [Addr.add] using c0)
      have hs0 : a'.spot = none := by
        unfold Addr.add at hsp
        split at hsp
        · exact hsp
        · obtain ⟨cs0, g1, g2⟩ := hel 0 (by omega)
          obtain ⟨_, _, _, _, rfl, _⟩ := open_op g2
          obtain ⟨-, -, gc⟩ := World.cells?_some g1
          exact World.cell?_spot (by simpa [Addr.add] using gc 0 (by decide))
      obtain ⟨ab, ao, as_⟩ := a'
      simp only at hs0
      subst hs0
      rw [add_off] at c0 c1 c2 c3
      rw [add_off] at c0 c1 c2 c3
      exact ⟨(kd, x, y, nn), h64, rfl, lt_of_cell (show W.cell? ⟨ab, ao + i * 4 + 0, none⟩ = some (.int .i64 kd) from c0), c0, c1, c2, c3⟩
    obtain ⟨f, hf⟩ := Go.Deep.choose_lt key
    refine ⟨(List.range n).map f, some a', _, by simp; rfl, by simpa using hl, fun t ht => ?_, fun hne => ?_⟩
    · obtain ⟨i, hi, rfl⟩ := List.mem_map.1 ht
      exact (hf i (List.mem_range.1 hi)).1
    · have hn : 0 < n := by
        rcases Nat.eq_zero_or_pos n with h0 | h0
        · subst h0; exact absurd rfl hne
        · exact h0
      obtain ⟨ab, ao, as_⟩ := a'
      obtain ⟨-, hs, hb, -⟩ := hf 0 hn
      simp only at hs
      subst hs
      refine ⟨ab, ao, rfl, hb, fun i t ht => ?_⟩
      have hi : i < n := by
        have := (List.getElem?_eq_some_iff.1 ht).1
        simpa using this
      rw [List.getElem?_map, List.getElem?_range hi] at ht
      simp at ht
      subst ht
      exact (hf i hi).2.2.2
theorem cells_three : Try.prog.cellsOf 75 = 3 := by kernel_rfl
set_option maxRecDepth 100000 in
theorem open_three {r : Reach} {b : Nat} {v : Value} {d : DataW H} {p : List MemPlace} (hv : Value.okWide Try.prog W r b 75 v) (h : DataW.Trod enc Try.prog W 0 (fun _ => true) true 75 v d p) :
    ∃ a0 a1 a2 : Int, v = .agg #[.int .i64 a0, .int .i64 a1, .int .i64 a2] := by
  simp only [Value.okWide, Try.underlying75] at hv
  obtain ⟨cs, rfl, -, -⟩ := hv
  obtain ⟨fuel, h⟩ := h
  cases fuel with
  | zero => simp [DataW.trod] at h
  | succ n =>
    unfold DataW.trod at h
    rw [Try.underlying75] at h
    simp only at h
    split at h
    · rename_i hl
      obtain ⟨xs, hxs, -⟩ := Option.map_eq_some_iff.1 h
      rw [cells_three] at hl
      obtain ⟨l⟩ := cs
      match l, hl with
      | [c0, c1, c2], _ =>
        obtain ⟨y0, h0⟩ := mapM_all hxs 0 (by simp)
        obtain ⟨y1, h1⟩ := mapM_all hxs 1 (by simp)
        obtain ⟨y2, h2⟩ := mapM_all hxs 2 (by simp)
        simp only [cells_i, Value.cells] at h0 h1 h2
        obtain ⟨a, e0, -, -⟩ := DataW.trod_int Try.underlying3 h0
        obtain ⟨b, e1, -, -⟩ := DataW.trod_int Try.underlying3 h1
        obtain ⟨c, e2, -, -⟩ := DataW.trod_int Try.underlying3 h2
        simp at e0 e1 e2
        subst e0 e1 e2
        exact ⟨a, b, c, rfl⟩
    · exact absurd h (by simp)
set_option maxRecDepth 100000 in
theorem open_int {r : Reach} {b : Nat} {t : TypeId} (ht : Try.prog.underlying t = some (.int .i64)) {v : Value} {d : DataW H} {p : List MemPlace} (hv : Value.okWide Try.prog W r b t v) (h : DataW.Trod enc Try.prog W 0 (fun _ => true) true t v d p) :
    ∃ n : Int, v = .int .i64 n ∧ Is64 n := by
  obtain ⟨n, rfl⟩ := okWide_int ht hv
  obtain ⟨fuel, h⟩ := h
  obtain ⟨n', e, -, hw⟩ := DataW.trod_int ht h
  obtain rfl : n = n' := by simpa [Value.cells] using e
  exact ⟨n, rfl, wf64 hw⟩
theorem again {W' : World} {t : TypeId} (hr : Try.prog.readableRec t = true) (hrow : t < Try.prog.types.size) {v : Value} {d : DataW H} {ps : List MemPlace} {sp' : Nat → Bool} (h : DataW.Trod enc Try.prog W 0 (fun _ => true) true t v d ps)
    (hlt : ∀ p ∈ ps, p.block < W.heap.size) (hb : Below W.heap.size W W') (hs : ∀ p ∈ ps, sp' p.block = true) : DataW.Trod enc Try.prog W' 0 sp' true t v d ps :=
  Go.WideElems.Trod_stays laid hr hrow h (fun p hp => hb.same (hlt p hp)) hs
end
end Go.Proofs.Ytgchfbfgjanaiaa.RowK

namespace Go.Proofs.Ytgchfbfgjanaiaa
theorem com_true : True := trivial
end Go.Proofs.Ytgchfbfgjanaiaa
