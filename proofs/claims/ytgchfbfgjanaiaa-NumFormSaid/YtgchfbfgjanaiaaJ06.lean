/- num.compared -/
import Derived.Test.YtgchfbfgjanaiaaJ05
set_option linter.unusedSimpArgs false
set_option linter.unusedVariables false
namespace Go.Proofs.Ytgchfbfgjanaiaa
open Go.RowKit Sr
def aggT (l : List (Bool × Nat)) (i : Nat) : Value := .agg #[.bool (l.getD i (false, 0)).1, .int .i64 ((l.getD i (false, 0)).2 : Int)]
theorem aggT_at {l : List (Bool × Nat)} {i : Nat} {t : Bool × Nat} (h : l[i]? = some t) : aggT l i = .agg #[.bool t.1, .int .i64 (t.2 : Int)] := by
  simp [aggT, List.getD, h]
theorem aggT_out {l : List (Bool × Nat)} {i : Nat} (h : ¬ i < l.length) : aggT l i = .agg #[.bool false, .int .i64 (0 : Int)] := by
  simp [aggT, List.getD, List.getElem?_eq_none (Nat.not_lt.1 h)]
set_option maxRecDepth 100000 in
set_option maxHeartbeats 4000000 in
theorem compared_any {w : World} {W : WB} {vs U : List Int} (hinv : WInv w W vs U) {va vb : Value} {la lb : List (Bool × Nat)} (ha : TL w va la) (hb : TL w vb lb) (hne : la ≠ lb) {r : Int}
    (hd : ∀ i, la.take i = lb.take i → la[i]? ≠ lb[i]? → ∀ w1, WInv w1 W vs U → Calls Try.prog 102 #[.pointer (some ⟨W.p, 0, none⟩), aggT la i, aggT lb i, .bool (decide (i < la.length)), .bool (decide (i < lb.length))] w1
      fun e w' => e = .returned (.int .i64 r) ∧ CS w1 w' W vs U) :
    Calls Try.prog 101 #[va, vb, .func (.func 102) #[.pointer (some ⟨W.p, 0, none⟩)] #[]] w
      fun e w' => e = .returned (.int .i64 r) ∧ CS w w' W vs U := by
  obtain ⟨a1, n1, c1, rfl⟩ := ha.slice
  obtain ⟨a2, n2, c2, rfl⟩ := hb.slice
  obtain ⟨rfl, hn1, hc1, -⟩ := ha.cells
  obtain ⟨rfl, hn2, hc2, -⟩ := hb.cells
  have HA := Sealed.mk ha; clear ha
  have HB := Sealed.mk hb; clear hb
  have HD := Sealed.mk hd; clear hd
  have HI := Sealed.mk hinv; clear hinv
  have HN := Sealed.mk hne; clear hne
  go_enter Try.func101, Try.ntmps101
  go_wp2_with fail
  all_goals
    go_loopw [15, 7, 8, 9] (fun i _ _ _ wr => ∃ k : Nat, i = .int .i64 k ∧ la.take k = lb.take k ∧ Below w.heap.size w wr) (fun i _ _ _ wr => la.length + lb.length - (intOf i).toNat)
    case atStart => exact ⟨0, rfl, rfl, Below.refl _ _⟩
    case round =>
      obtain ⟨k, rfl, hk, hbw⟩ := hrel
      have HK := Sealed.mk hk; clear hk
      by_cases h1 : k < la.length
      · obtain ⟨s, hs⟩ : ∃ s, la[k]? = some s := ⟨_, List.getElem?_eq_getElem h1⟩
        obtain ⟨-, -, -, hcA⟩ := (HA.out.below hbw).cells
        obtain ⟨ba, oa, rfl, ca, ca'⟩ := hcA k s hs
        clear hcA
        have hba := lt_of_cell ca
        obtain ⟨m1, p1⟩ := s
        have HS := Sealed.mk hs; clear hs
        by_cases h2 : k < lb.length
        · obtain ⟨t, ht⟩ : ∃ t, lb[k]? = some t := ⟨_, List.getElem?_eq_getElem h2⟩
          obtain ⟨-, -, -, hcB⟩ := (HB.out.below hbw).cells
          obtain ⟨bb, ob, rfl, cb, cb'⟩ := hcB k t ht
          clear hcB
          have hbb := lt_of_cell cb
          obtain ⟨m2, p2⟩ := t
          have HT := Sealed.mk ht; clear ht
          by_cases hm : m1 = m2
          · subst hm
            by_cases hp : p1 = p2
            · subst hp
              go_wp2_with fail
              go_roundw
              case rel => exact ⟨k + 1, by go_num, by rw [take_snoc HS.out, take_snoc HT.out, HK.out], (hbw.alloc hbw.size _).alloc (Nat.le_trans hbw.size (by simp)) _⟩
              case measure => simp [intOf]; omega
            · have hc := HD.out k HK.out (by rw [HS.out, HT.out]; simp [hp])
              rw [aggT_at HS.out, aggT_at HT.out, decide_eq_true h1, decide_eq_true h2] at hc
              have HC := Sealed.mk hc; clear hc
              go_wp2_with (go_at_call 102; go_must (refine (HC.out _ ?_).mono ?_; exact HI.out.below ((hbw.alloc hbw.size _).alloc (Nat.le_trans hbw.size (by simp)) _); rintro e w1 ⟨rfl, hcs⟩))
              go_ret
              exact ⟨rfl, (CS.refl HI.out).below ((hbw.alloc hbw.size _).alloc (Nat.le_trans hbw.size (by simp)) _) |>.trans hcs⟩
          · have hc := HD.out k HK.out (by rw [HS.out, HT.out]; simp [hm])
            rw [aggT_at HS.out, aggT_at HT.out, decide_eq_true h1, decide_eq_true h2] at hc
            have HC := Sealed.mk hc; clear hc
            go_wp2_with (go_at_call 102; go_must (refine (HC.out _ ?_).mono ?_; exact HI.out.below ((hbw.alloc hbw.size _).alloc (Nat.le_trans hbw.size (by simp)) _); rintro e w1 ⟨rfl, hcs⟩))
            go_ret
            exact ⟨rfl, (CS.refl HI.out).below ((hbw.alloc hbw.size _).alloc (Nat.le_trans hbw.size (by simp)) _) |>.trans hcs⟩
        · first
            | (exfalso; omega)
            | (have hc := HD.out k HK.out (by rw [HS.out, List.getElem?_eq_none (Nat.not_lt.1 h2)]; simp)
               rw [aggT_at HS.out, aggT_out h2, decide_eq_true h1, decide_eq_false h2] at hc
               have HC := Sealed.mk hc; clear hc
               go_wp2_with (go_at_call 102; go_must (refine (HC.out _ ?_).mono ?_; exact HI.out.below ((hbw.alloc hbw.size _).alloc (Nat.le_trans hbw.size (by simp)) _); rintro e w1 ⟨rfl, hcs⟩))
               go_ret
               exact ⟨rfl, (CS.refl HI.out).below ((hbw.alloc hbw.size _).alloc (Nat.le_trans hbw.size (by simp)) _) |>.trans hcs⟩)
      · by_cases h2 : k < lb.length
        · first
            | (exfalso; omega)
            | (obtain ⟨t, ht⟩ : ∃ t, lb[k]? = some t := ⟨_, List.getElem?_eq_getElem h2⟩
               obtain ⟨-, -, -, hcB⟩ := (HB.out.below hbw).cells
               obtain ⟨bb, ob, rfl, cb, cb'⟩ := hcB k t ht
               clear hcB
               have hbb := lt_of_cell cb
               obtain ⟨m2, p2⟩ := t
               have HT := Sealed.mk ht; clear ht
               have hc := HD.out k HK.out (by rw [HT.out, List.getElem?_eq_none (Nat.not_lt.1 h1)]; simp)
               rw [aggT_at HT.out, aggT_out h1, decide_eq_true h2, decide_eq_false h1] at hc
               have HC := Sealed.mk hc; clear hc
               go_wp2_with (go_at_call 102; go_must (refine (HC.out _ ?_).mono ?_; exact HI.out.below ((hbw.alloc hbw.size _).alloc (Nat.le_trans hbw.size (by simp)) _); rintro e w1 ⟨rfl, hcs⟩))
               go_ret
               exact ⟨rfl, (CS.refl HI.out).below ((hbw.alloc hbw.size _).alloc (Nat.le_trans hbw.size (by simp)) _) |>.trans hcs⟩)
        · exfalso
          have := HK.out
          rw [List.take_of_length_le (by omega), List.take_of_length_le (by omega)] at this
          exact HN.out this
end Go.Proofs.Ytgchfbfgjanaiaa
