/-
  sandreckonerlaw01.NumFull: the walk
  lists of int8s, and bytes, that a law reads: opened
-/
import Derived.Test.YtgchfbfgjanaiaaLwFullRx01
import Derived.Test.YtgchfbfgjanaiaaK01
import Derived.Deep.DeepCutAuto
import Derived.Deep.CutRange
import Derived.StillTailTactics
import Derived.Test.YtgchfbfgjanaiaaK02
set_option linter.unusedSimpArgs false
set_option linter.unusedVariables false
namespace Go.Proofs.Ytgchfbfgjanaiaa
open Go.RowKit Sr

theorem TermsAt.first {w : World} {a : Option Addr} {m c j : Nat} {l : List (Bool × Int)} (h : TermsAt w (.slice a m c) l) (hj : j ≤ l.length) : TermsAt w (.slice a j c) (l.take j) := by
  obtain ⟨h1, h2, a', c', e, h3, h4⟩ := h
  obtain ⟨rfl, -, rfl⟩ := Value.slice.inj e
  have hl : (l.take j).length = j := by rw [List.length_take]; omega
  refine ⟨by omega, fun b hb => h2 b (by cases a <;> exact hb), a, c, by rw [hl], by omega, fun hne => ?_⟩
  obtain ⟨b, o, rfl, h5⟩ := h4 (by intro e; rw [e] at hne; simp at hne)
  refine ⟨b, o, rfl, fun i t ht => h5 i t ?_⟩
  have hi : i < j := by have := (List.getElem?_eq_some_iff.1 ht).1; omega
  rwa [List.getElem?_take_of_lt hi] at ht

theorem Terms_len {w : World} {u : Value} {x : Int} {k : Nat} (h : NumIs w u x) (hk : wl x = k) : Calls Try.prog 41 #[u] w fun e w' => ∃ a c, e = .returned (.slice a k c) ∧ Below w.heap.size w w' :=
  (Terms_any h).mono fun e w' h => by
    obtain ⟨a, c, ts, rfl, -, hb⟩ := h
    exact ⟨a, c, by rw [hk], hb⟩

set_option maxRecDepth 100000 in
set_option maxHeartbeats 4000000 in
theorem lawFull_any {n : Nat} (hn : n ≤ 255) (w00 : World) : Calls Try.prog 14 #[.int .u8 (n : Int)] w00 fun e w' => e = .returned (.bool true) ∧ Below w00.heap.size w00 w' := by
  have hof : ∀ (m : Nat), m ≤ 100000 → ∀ W, Calls Try.prog 21 #[.int .i64 (m : Int)] W (One W (m : Int)) := fun m hm W => Of_one (n := (m : Int)) (by unfold Is64; omega) W
  have OF := Sealed.mk hof; clear hof
  have OF0 := Sealed.mk (fun W => Of_one (n := 0) (by unfold Is64; decide) W)
  have OF1 := Sealed.mk (fun W => Of_one (n := 1) (by unfold Is64; decide) W)
  go_enter Try.func14, Try.ntmps14
  go_upto_region 2 with fail
  obtain ⟨W1, hW1⟩ : ∃ W1, W1 = w00.alloc (.cells #[] 47) := ⟨_, rfl⟩
  have SL0 : Sealed (SP w00 W1 [] (fullL n 0) [] (.slice (some ⟨w00.heap.size, 0, none⟩) 0 0) (.slice none 0 0)) := ⟨{
    st := by rw [hW1]; exact (St.start w00).na
    a := ⟨[], by
      have h1 := own_empty (w := w00) (B := w00.heap.size) (e := 47) (size := 2) (Nat.le_refl _) #[] rfl
      rw [← hW1] at h1
      exact ⟨by simpa [trow, fullL] using h1, rfl, fun i t s ht _ => by simp at ht⟩⟩
    b := ⟨[], by simpa [trow] using World.ownsRow_nil _ _ _ _, by simp, fun i t s ht _ => by simp at ht⟩
    apart := fun q _ hk => by simp [Value.ownBlock] at hk }⟩
  rw [← hW1]
  clear hW1
  go_wp2_with fail
  go_loopg [3, 4] 301 (fun jj av iv W => ∃ (k : Nat) (oa : Option Addr) (ca : Nat), jj = 301 - k ∧ k ≤ 301 ∧ iv = .int .i64 (k : Int) ∧ av = .slice oa k ca ∧ Sealed (SP w00 W [] (fullL n k) [] (.slice oa k ca) (.slice none 0 0)))
  case atStart => exact ⟨0, _, 0, rfl, Nat.zero_le _, rfl, rfl, SL0⟩
  case round =>
    obtain ⟨k, oa, ca, rfl, hk, rfl, rfl, HS⟩ := hrel
    by_cases hkt : k < 301
    · have hk1 : (k : Int) < 301 := by omega
      have f1 : wrap64 (2 * (k : Int)) = 2 * (k : Int) := by unfold wrap64; omega
      have f2 : IntKind.i64.wrap (n : Int) = (n : Int) := by rw [IntKind.wrap_i64]; omega
      have f3 : wrap64 (2 * (k : Int) + (n : Int)) = 2 * (k : Int) + (n : Int) := by unfold wrap64; omega
      obtain ⟨ta, hta⟩ := HS.out.a
      have hsz := HS.out.st.below.size
      have HTA := Sealed.mk (And.intro hta hsz); clear hta hsz
      have hOK : ∀ W, Calls Try.prog 21 #[.int .i64 (2 * (k : Int) + (n : Int))] W (One W ((2 * k + n : Nat) : Int)) := fun W => by
        have e : ((2 * k + n : Nat) : Int) = 2 * (k : Int) + (n : Int) := by push_cast; rfl
        rw [← e]; exact OF.out (2 * k + n) (by omega) W
      have OFK := Sealed.mk hOK; clear hOK
      obtain ⟨mk, hmk⟩ : ∃ mk : Bool, mk = (k % 3 == 1) := ⟨_, rfl⟩
      have f4 : ((k : Int) % 3 == 1) = mk := by
        rw [hmk, Bool.eq_iff_iff]
        simp
        omega
      have HMK := Sealed.mk hmk; clear hmk
      go_wp2_with (first
        | (go_at_call 21; go_must ((with_reducible refine (OFK.out _).mono ?_); rintro e w3 ⟨p3, rfl, hb, hn⟩; have hto := HTA.out.1.below hb; have hown := hto.own; rw [fullL_length] at hown; have hsz : w00.heap.size ≤ w3.heap.size := Nat.le_trans HTA.out.2 hb.size; have D := Sealed.mk (And.intro hown (And.intro hto (And.intro hb (And.intro hn hsz)))); clear hb hn hto hown hsz))
        | (at_builtin; go_must (refine ap_litp (m := 1) el_Term (.tmp 36) (.tmp 47) rfl rfl rfl D.out.1 rfl rfl rfl (by omega) (by simp [Value.oneCell']) (by omega) D.out.2.2.2.2 ?_); go_must (intro g8 c8 w8 ho8 hg8 hn8; have HO8 := Sealed.mk (And.intro ho8 (And.intro hg8 hn8)); clear ho8 hg8 hn8)))
      go_roundg (301 - (k + 1))
      case measure => omega
      case rel =>
        refine ⟨k + 1, _, c8, rfl, by omega, by push_cast; rfl, by push_cast; rfl, ⟨?_⟩⟩
        rw [fullL_succ, show fullT n k = (mk, ((2 * k + n : Nat) : Int)) by unfold fullT; rw [HMK.out]]
        exact (HS.out.adv D.out.2.2.1).pushA D.out.2.1 (Below.refl _ _) (by rw [fullL_length]) D.out.2.2.2.1 HO8.out.2.1 HO8.out.1 HO8.out.2.2
    · obtain rfl : k = 301 := by omega
      obtain ⟨w, hw⟩ : ∃ w, w = wr := ⟨_, rfl⟩
      rw [← hw] at HS ⊢
      clear hw
      have HB00 := Sealed.mk HS.out.st.below
      obtain ⟨ta, hta⟩ := HS.out.a
      have hT := hta.at_ (by rw [fullL_length]; omega)
      obtain ⟨ga, cap, e1⟩ := own_form hta.own (by rw [fullL_length]; omega)
      obtain ⟨rfl, -, rfl⟩ := Value.slice.inj e1
      have hca : 301 ≤ ca := by
        obtain ⟨-, -, a', c', e, h, -⟩ := hT
        obtain ⟨-, -, rfl⟩ := Value.slice.inj e
        rw [fullL_length] at h
        exact h
      have hca1 : (300 : Int) ≤ (ca : Int) := by omega
      have hca2 : (100 : Int) ≤ (ca : Int) := by omega
      have hca3 : (101 : Int) ≤ (ca : Int) := by omega
      have f2 : IntKind.i64.wrap (n : Int) = (n : Int) := by rw [IntKind.wrap_i64]; omega
      have f3 : wrap64 (600 + (n : Int)) = 600 + (n : Int) := by unfold wrap64; omega
      have hT300 := hT.first (j := 300) (by rw [fullL_length]; omega)
      have hT100 := hT.first (j := 100) (by rw [fullL_length]; omega)
      have hT101 := hT.first (j := 101) (by rw [fullL_length]; omega)
      rw [fullL_take n (by omega)] at hT300 hT100 hT101
      have HT := Sealed.mk (And.intro hT (And.intro hT300 (And.intro hT100 hT101)))
      clear hT hT300 hT100 hT101 hta e1 HS SL0 hca
      have OFQ : Sealed (∀ W, Calls Try.prog 21 #[.int .i64 (600 + (n : Int))] W (One W ((600 + n : Nat) : Int))) := ⟨fun W => by
        have e : ((600 + n : Nat) : Int) = 600 + (n : Int) := by push_cast; rfl
        rw [← e]; exact OF.out (600 + n) (by omega) W⟩
      have G1 := sumR_full (k := 300) hn (by omega)
      have G2 := sumR_full_no n
      have G3 := pow_small (m := 600 + n) (by omega)
      have G4 := full_more n
      have G6 := sumR_full (k := 100) hn (by omega)
      have G7 := sumR_full (k := 101) hn (by omega)
      have G8 := full_refused n
      have G9 := full_kept hn
      obtain ⟨G10, G11⟩ := full_square hn
      have G12 := wl_full n 300
      obtain ⟨m, -, G5, hhp, hw1, hsg⟩ := full_pow hn
      obtain ⟨X, hX⟩ : ∃ X, X = fullV n 300 := ⟨_, rfl⟩
      obtain ⟨A, hA⟩ : ∃ A, A = fullV n 100 := ⟨_, rfl⟩
      obtain ⟨B, hB⟩ : ∃ B, B = fullV n 101 := ⟨_, rfl⟩
      obtain ⟨Q, hQ⟩ : ∃ Q : Int, Q = 2 ^ (600 + n) := ⟨_, rfl⟩
      obtain ⟨P, hP⟩ : ∃ P : Int, P = 2 ^ m := ⟨_, rfl⟩
      rw [← hX] at G1 G4 G5 G12 hhp hsg
      rw [← hA] at G6 G8 G9 G10 G11
      rw [← hB] at G7 G8
      rw [← hQ] at G3 G4
      rw [← hP] at G5 hhp hw1
      obtain ⟨M, hM⟩ : ∃ M, M = A * A := ⟨_, rfl⟩
      rw [← hM] at G10 G11
      clear hX hA hB hQ hP hM
      obtain ⟨hx, hhx⟩ : ∃ h : Nat, h = height X := ⟨_, rfl⟩
      have hhP : ((height P : Nat) : Int) = (hx : Int) + 1 := by rw [hhp, hhx]; push_cast; rfl
      have hx100 : hx + 1 ≤ 101 := by
        have : Allowed X := by
          by_cases h : Allowed X
          · exact h
          · unfold sumR at G1
            rw [if_neg (full_nonneg n _), if_neg (by rw [fullL_length]; omega), termsV_full] at G1
            by_cases h2 : Allowed (fullV n 300)
            · rw [gv_ok h2] at G1
              have := (Prod.mk.inj G1).1
              rw [this] at h2
              exact absurd h2 h
            · rw [gv_no h2] at G1
              have := (Prod.mk.inj G1).2
              omega
        have := this.2.2.2
        omega
      have hwr : IntKind.i64.wrap ((hx : Int) + 1) = (hx : Int) + 1 := by rw [IntKind.wrap_i64]; omega
      have hwr2 : wrap64 ((hx : Int) + 1) = (hx : Int) + 1 := by unfold wrap64; omega
      replace G1 := Sealed.mk G1; replace G2 := Sealed.mk G2; replace G3 := Sealed.mk G3; replace G4 := Sealed.mk G4; replace G5 := Sealed.mk G5
      replace G6 := Sealed.mk G6; replace G7 := Sealed.mk G7; replace G8 := Sealed.mk G8; replace G9 := Sealed.mk G9; replace G10 := Sealed.mk G10; replace G11 := Sealed.mk G11
      have HX := Sealed.mk (And.intro G12 (And.intro hsg (And.intro hhP (And.intro hhx hw1))))
      clear G12 hsg hhP hhx hhp hw1 hx100
      obtain ⟨t, ht0, hts, htA, htn, htm⟩ := full_tower
      have HTW := Sealed.mk (And.intro ht0 (And.intro hts (And.intro htA (And.intro htn htm)))); clear ht0 hts htA htn htm
      have S := Sealed.mk (St.start w)
      go_upto_region 7 with (go_at_call 27; go_must ((with_reducible refine (Sum_two G1.out (HT.out.2.1.below S.out.below)).mono ?_); rintro e w11 ⟨p11, rfl, hb, hn⟩; replace S := Sealed.mk (S.out.res hb hn); clear hb hn))
      have S0 := (S.out.new (S.out.num 0 rfl)).clr
      obtain ⟨W12, hW12⟩ : ∃ W12, W12 = w11.alloc (.cells #[.pointer p11] 30) := ⟨_, rfl⟩
      rw [← hW12] at S0 ⊢
      replace S := Sealed.mk S0; clear S0 hW12
      go_upto_region 8 with (go_at_call 27; go_must ((with_reducible refine (Sum_two G2.out (HT.out.1.below S.out.below)).mono ?_); rintro e w13 ⟨p13, rfl, hb, hn⟩; replace S := Sealed.mk (S.out.res hb hn); clear hb hn))
      have S0 := (S.out.new (S.out.num 0 rfl)).clr
      obtain ⟨W14, hW14⟩ : ∃ W14, W14 = w13.alloc (.cells #[.pointer p13] 30) := ⟨_, rfl⟩
      rw [← hW14] at S0 ⊢
      replace S := Sealed.mk S0; clear S0 hW14
      go_upto_region 9 with (first
        | (go_at_call 21; go_must (first
            | ((with_reducible refine (OF1.out _).mono ?_); rintro e w15 ⟨p15, rfl, hb, hn⟩; replace S := Sealed.mk (S.out.res hb hn); clear hb hn)
            | ((with_reducible refine (OFQ.out _).mono ?_); rintro e w15' ⟨p15', rfl, hb, hn⟩; replace S := Sealed.mk (S.out.res hb hn); clear hb hn)))
        | (go_at_call 25; go_must ((with_reducible refine (Shift_two G3.out (S.out.num 1 rfl) (S.out.num 0 rfl)).mono ?_); rintro e w16 ⟨p16, rfl, hb, hn⟩; replace S := Sealed.mk (S.out.res hb hn); clear hb hn)))
      have S0 := (S.out.new (S.out.num 0 rfl)).clr
      obtain ⟨W17, hW17⟩ : ∃ W17, W17 = w16.alloc (.cells #[.pointer p16] 30) := ⟨_, rfl⟩
      rw [← hW17] at S0 ⊢
      replace S := Sealed.mk S0; clear S0 hW17
      have ld0 := S.out.cell 2 rfl
      have ld1 := S.out.cell 0 rfl
      go_upto_region 10 with (go_at_call 32; go_must ((with_reducible refine (Add_two G4.out (S.out.cnum 2 rfl) (S.out.cnum 0 rfl)).mono ?_); rintro e w18 ⟨p18, rfl, hb, hn⟩; replace S := Sealed.mk (S.out.res hb hn); clear hb hn))
      clear ld0 ld1
      have S0 := (S.out.new (S.out.num 0 rfl)).clr
      obtain ⟨W19, hW19⟩ : ∃ W19, W19 = w18.alloc (.cells #[.pointer p18] 30) := ⟨_, rfl⟩
      rw [← hW19] at S0 ⊢
      replace S := Sealed.mk S0; clear S0 hW19
      go_cut [94] from 75 to 94 (fun v wx => v = .bool false ∧ Below W19.heap.size W19 wx)
      case first =>
        have HB := Sealed.mk (Below.refl W19.heap.size W19)
        have ld0 := S.out.cell 3 rfl
        go_wp2_with (first
          | (go_at_call 41; go_must (first
              | ((with_reducible refine (Terms_len (S.out.cnum 3 rfl) HX.out.1).mono ?_); rintro e w20 ⟨aT20, cT20, rfl, hb⟩; replace S := Sealed.mk (S.out.adv hb); replace HB := Sealed.mk (below_chain HB.out hb); clear hb; have lx0 := S.out.cell 3 rfl))))
        all_goals
          go_meet
          case rel => exact ⟨by first | rfl | simp, HB.out⟩
      case rest =>
        obtain ⟨rfl, hbc⟩ := hcut
        obtain ⟨W21, hW21⟩ : ∃ W21, W21 = wc := ⟨_, rfl⟩
        rw [← hW21] at hbc ⊢
        clear hW21
        replace S := Sealed.mk (S.out.adv hbc)
        clear hbc
        go_upto_region 12 with fail
        go_cut [13, 6] from 95 to 100 (fun vn ve wx => ∃ kn pn, vn = .pointer (some ⟨kn, 0, none⟩) ∧ ve = .int .i64 0 ∧ St w wx [] [(kn, pn, P), (w18.heap.size, p18, 0), (w16.heap.size, p16, Q), (w13.heap.size, p13, 0), (w11.heap.size, p11, X)])
        case first =>
          go_region_held3 (fun W => W.cell? ⟨w11.heap.size, 0, none⟩ = some (.pointer p11))
            (first
              | exact S.out.cell 3 rfl
              | exact S.out.dr.cell 3 rfl
              | exact S.out.cell 4 rfl
              | exact (S.out.new (NumIs.zero _)).dr.cell 4 rfl
              | exact (S.out.new (NumIs.zero _)).cell 4 rfl
              | exact (S.out.put 0 rfl (S.out.num 0 rfl)).cell 4 rfl
              | exact (S.out.new (S.out.num 0 rfl)).cell 4 rfl
              | fail)
            (first
              | (go_at_call 21; go_must ((with_reducible refine (OF1.out _).mono ?_); rintro e w22 ⟨p22, rfl, hb, hn⟩; first | (replace S := Sealed.mk (S.out.dr.res hb hn)) | (replace S := Sealed.mk ((S.out.new (NumIs.zero _)).dr.res hb hn)); clear hb hn))
              | (go_at_call 25; go_must (first
                  | ((with_reducible refine (Shift_two G5.out (S.out.num 0 rfl) (S.out.cnum 3 rfl)).mono ?_); rintro e w22' ⟨p22', rfl, hb, hn⟩; replace S := Sealed.mk (S.out.res hb hn); clear hb hn)
                  | ((with_reducible refine (Shift_two G5.out (S.out.num 0 rfl) (S.out.cnum 4 rfl)).mono ?_); rintro e w22' ⟨p22', rfl, hb, hn⟩; replace S := Sealed.mk (S.out.res hb hn); have zc := S.out.cell 0 rfl; have zf := S.out.frozen 0 rfl; clear hb hn)
                  | ((with_reducible refine (Shift_two G5.out ((S.out.new (NumIs.zero _)).num 0 rfl) ((S.out.new (NumIs.zero _)).cnum 4 rfl)).mono ?_); rintro e w22' ⟨p22', rfl, hb, hn⟩; replace S := Sealed.mk ((S.out.new (NumIs.zero _)).res hb hn); have zc := S.out.cell 0 rfl; have zf := S.out.frozen 0 rfl; clear hb hn))))
          all_goals
            go_wp2_with fail
            go_meet
            case rel =>
              first
                | exact ⟨_, _, rfl, rfl, (S.out.new (S.out.num 0 rfl)).clr⟩
                | exact ⟨_, _, rfl, rfl, (S.out.put 0 rfl (S.out.num 0 rfl)).clr⟩
        case rest =>
          obtain ⟨kn22, pn22, rfl, rfl, hS⟩ := hcut
          obtain ⟨W22, hW22⟩ : ∃ W22, W22 = wc := ⟨_, rfl⟩
          rw [← hW22] at hS ⊢
          clear hW22
          replace S := Sealed.mk hS
          clear hS
          go_upto_region 13 with fail
          go_cut [121] from 101 to 121 (fun v wx => v = .bool false ∧ Below W22.heap.size W22 wx)
          case first =>
            have HB := Sealed.mk (Below.refl W22.heap.size W22)
            replace HB := Sealed.mk HB.out.drew
            replace S := Sealed.mk S.out.dr
            go_region_held3 (fun W => W.cell? ⟨w11.heap.size, 0, none⟩ = some (.pointer p11) ∧ W.cell? ⟨kn22, 0, none⟩ = some (.pointer pn22))
              (exact ⟨S.out.cell 4 rfl, S.out.cell 0 rfl⟩)
              (first
                | (go_at_call 42; go_must (first
                    | ((with_reducible refine (Sign_any (S.out.cnum 4 rfl)).mono ?_); rintro e w23 ⟨rfl, hb⟩; rw [HX.out.2.1]; replace S := Sealed.mk (S.out.adv hb); replace HB := Sealed.mk (below_chain HB.out hb); clear hb)))
                | (go_at_call 43; go_must (first
                    | ((with_reducible refine (Height_any (S.out.cnum 0 rfl)).mono ?_); rintro e w24 ⟨rfl, hb⟩; rw [HX.out.2.2.1]; replace S := Sealed.mk (S.out.adv hb); replace HB := Sealed.mk (below_chain HB.out hb); clear hb)
                    | ((with_reducible refine (Height_any (S.out.cnum 4 rfl)).mono ?_); rintro e w25 ⟨rfl, hb⟩; rw [← HX.out.2.2.2.1]; replace S := Sealed.mk (S.out.adv hb); replace HB := Sealed.mk (below_chain HB.out hb); clear hb)))
                | (go_at_call 41; go_must (first
                    | ((with_reducible refine (Terms_len (S.out.cnum 0 rfl) HX.out.2.2.2.2).mono ?_); rintro e w26 ⟨aT26, cT26, rfl, hb⟩; replace S := Sealed.mk (S.out.adv hb); replace HB := Sealed.mk (below_chain HB.out hb); clear hb))))
            all_goals
              go_wp2_with fail
              go_meet
              case rel => exact ⟨by first | rfl | simp, HB.out⟩
          case rest =>
            obtain ⟨rfl, hbc⟩ := hcut
            obtain ⟨W27, hW27⟩ : ∃ W27, W27 = wc := ⟨_, rfl⟩
            rw [← hW27] at hbc ⊢
            clear hW27
            replace S := Sealed.mk (S.out.adv hbc)
            clear hbc
            go_upto_region 15 with fail
            go_upto_region 16 with (go_at_call 21; go_must ((with_reducible refine (OF1.out _).mono ?_); rintro e w28 ⟨p28, rfl, hb, hn⟩; replace S := Sealed.mk (S.out.res hb hn); clear hb hn))
            have S0 := ((S.out.new (S.out.num 0 rfl)).clr).sub (cells' := [(w28.heap.size, p28, 1)]) (by simp) (by simp)
            obtain ⟨W29, hW29⟩ : ∃ W29, W29 = w28.alloc (.cells #[.pointer p28] 30) := ⟨_, rfl⟩
            obtain ⟨kt, hkt⟩ : ∃ kt, kt = w28.heap.size := ⟨_, rfl⟩
            rw [← hW29, ← hkt] at S0 ⊢
            clear S
            have SB := Sealed.mk S0; clear S0 hW29 hkt
            go_wp2_with fail
            go_loopg [15] 99 (fun jj iv W => ∃ (k : Nat) (pt : Option Addr), jj = 99 - k ∧ k ≤ 99 ∧ iv = .int .i64 (k : Int) ∧ Sealed (St w W [] [(kt, pt, (t k : Int))]))
            case atStart => exact ⟨0, p28, rfl, Nat.zero_le _, rfl, ⟨by rw [HTW.out.1]; exact SB.out⟩⟩
            case round =>
              clear SB
              obtain ⟨k, pt, rfl, hk, rfl, S⟩ := hrel
              by_cases hkt : k < 99
              · have hk1 : (k : Int) < 99 := by omega
                obtain ⟨tk, htk⟩ : ∃ z, z = (t k : Int) := ⟨_, rfl⟩
                obtain ⟨tn, htn⟩ : ∃ z, z = (t (k + 1) : Int) := ⟨_, rfl⟩
                rw [← htk] at S
                have GT : Sealed (shiftR 1 tk = (tn, 0)) := ⟨by rw [htk, htn]; exact HTW.out.2.1 k hkt⟩
                have hh1 : ((height tk : Nat) : Int) = (k : Int) + 1 := by rw [htk, (HTW.out.2.2.1 k (by omega)).2]; push_cast; rfl
                have hh2 : ((height tn : Nat) : Int) = (k : Int) + 1 + 1 := by rw [htn, (HTW.out.2.2.1 (k + 1) (by omega)).2]; push_cast; rfl
                have hwk : IntKind.i64.wrap ((k : Int) + 1 + 1) = (k : Int) + 1 + 1 := by rw [IntKind.wrap_i64]; omega
                have hwk2 : wrap64 ((k : Int) + 1 + 1) = (k : Int) + 1 + 1 := by unfold wrap64; omega
                have HH := Sealed.mk (And.intro hh1 (And.intro hh2 htn)); clear hh1 hh2 htn htk
                go_upto_region 19 with fail
                go_cut [16, 17] from 127 to 132 (fun vn ve wx => ∃ kn pn, vn = .pointer (some ⟨kn, 0, none⟩) ∧ ve = .int .i64 0 ∧ St w wx [] [(kn, pn, tn), (kt, pt, tk)])
                case first =>
                  go_region_held3 (fun W => W.cell? ⟨kt, 0, none⟩ = some (.pointer pt))
                    (first
                      | exact S.out.cell 0 rfl
                      | exact S.out.dr.cell 0 rfl
                      | exact S.out.cell 1 rfl
                      | exact (S.out.new (NumIs.zero _)).dr.cell 1 rfl
                      | exact (S.out.new (NumIs.zero _)).cell 1 rfl
                      | exact (S.out.put 0 rfl (S.out.num 0 rfl)).cell 1 rfl
                      | exact (S.out.new (S.out.num 0 rfl)).cell 1 rfl
                      | fail)
                    (first
                      | (go_at_call 21; go_must ((with_reducible refine (OF1.out _).mono ?_); rintro e w30 ⟨p30, rfl, hb, hn⟩; first | (replace S := Sealed.mk (S.out.dr.res hb hn)) | (replace S := Sealed.mk ((S.out.new (NumIs.zero _)).dr.res hb hn)); clear hb hn))
                      | (go_at_call 25; go_must (first
                          | ((with_reducible refine (Shift_two GT.out (S.out.num 0 rfl) (S.out.cnum 0 rfl)).mono ?_); rintro e w30' ⟨p30', rfl, hb, hn⟩; replace S := Sealed.mk (S.out.res hb hn); clear hb hn)
                          | ((with_reducible refine (Shift_two GT.out (S.out.num 0 rfl) (S.out.cnum 1 rfl)).mono ?_); rintro e w30' ⟨p30', rfl, hb, hn⟩; replace S := Sealed.mk (S.out.res hb hn); have zc := S.out.cell 0 rfl; have zf := S.out.frozen 0 rfl; clear hb hn)
                          | ((with_reducible refine (Shift_two GT.out ((S.out.new (NumIs.zero _)).num 0 rfl) ((S.out.new (NumIs.zero _)).cnum 1 rfl)).mono ?_); rintro e w30' ⟨p30', rfl, hb, hn⟩; replace S := Sealed.mk ((S.out.new (NumIs.zero _)).res hb hn); have zc := S.out.cell 0 rfl; have zf := S.out.frozen 0 rfl; clear hb hn))))
                  all_goals
                    go_wp2_with fail
                    go_meet
                    case rel =>
                      first
                        | exact ⟨_, _, rfl, rfl, (S.out.new (S.out.num 0 rfl)).clr⟩
                        | exact ⟨_, _, rfl, rfl, (S.out.put 0 rfl (S.out.num 0 rfl)).clr⟩
                case rest =>
                  obtain ⟨kn30, pn30, rfl, rfl, hS⟩ := hcut
                  obtain ⟨W30, hW30⟩ : ∃ W30, W30 = wc := ⟨_, rfl⟩
                  rw [← hW30] at hS ⊢
                  clear hW30
                  replace S := Sealed.mk hS
                  clear hS
                  go_upto_region 20 with fail
                  go_cut [142] from 133 to 142 (fun v wx => v = .bool false ∧ Below W30.heap.size W30 wx)
                  case first =>
                    have HB := Sealed.mk (Below.refl W30.heap.size W30)
                    replace HB := Sealed.mk HB.out.drew
                    replace S := Sealed.mk S.out.dr
                    go_region_held3 (fun W => W.cell? ⟨kt, 0, none⟩ = some (.pointer pt) ∧ W.cell? ⟨kn30, 0, none⟩ = some (.pointer pn30))
                      (exact ⟨S.out.cell 1 rfl, S.out.cell 0 rfl⟩)
                      (first
                        | (go_at_call 43; go_must (first
                            | ((with_reducible refine (Height_any (S.out.cnum 0 rfl)).mono ?_); rintro e w31 ⟨rfl, hb⟩; rw [HH.out.2.1]; replace S := Sealed.mk (S.out.adv hb); replace HB := Sealed.mk (below_chain HB.out hb); clear hb)
                            | ((with_reducible refine (Height_any (S.out.cnum 1 rfl)).mono ?_); rintro e w32 ⟨rfl, hb⟩; rw [HH.out.1]; replace S := Sealed.mk (S.out.adv hb); replace HB := Sealed.mk (below_chain HB.out hb); clear hb))))
                    all_goals
                      go_wp2_with fail
                      go_meet
                      case rel => exact ⟨by first | rfl | simp, HB.out⟩
                  case rest =>
                    obtain ⟨rfl, hbc⟩ := hcut
                    obtain ⟨W33, hW33⟩ : ∃ W33, W33 = wc := ⟨_, rfl⟩
                    rw [← hW33] at hbc ⊢
                    clear hW33
                    replace S := Sealed.mk (S.out.adv hbc)
                    clear hbc
                    have ld0 := S.out.cell 0 rfl
                    have lt0 := S.out.cell 1 rfl
                    have lf0 := S.out.frozen 1 rfl
                    go_wp2_with fail
                    go_roundg (99 - (k + 1))
                    case measure => omega
                    case rel =>
                      have S2 := (S.out.put 1 rfl (S.out.cnum 0 rfl)).sub (cells' := [(kt, pn30, tn)]) (by simp) (by simp)
                      exact ⟨k + 1, _, rfl, by omega, by push_cast; rfl, ⟨by rw [← HH.out.2.2]; exact S2⟩⟩
              · obtain rfl : k = 99 := by omega
                obtain ⟨tz, htz⟩ : ∃ z, z = (t 99 : Int) := ⟨_, rfl⟩
                obtain ⟨D, hD⟩ : ∃ z, z = tz - 1 := ⟨_, rfl⟩
                have g1 := HTW.out.2.2.2.1
                have g2 := HTW.out.2.2.2.2
                have g3 := (HTW.out.2.2.1 99 (by omega)).2
                rw [← htz] at g1 g2 g3 S
                rw [← hD] at g2
                have hc : sg (D - tz) = -1 := by rw [hD]; unfold sg; rw [if_pos (by omega)]
                have hh : ((height tz : Nat) : Int) = 100 := by rw [g3]; rfl
                have hg4 : gv (tz - 1) = (D, 0) := by rw [hD]; rw [hD] at g2; exact g2
                have GT1 := Sealed.mk g1
                have GT2 := Sealed.mk hg4
                have HD := Sealed.mk (And.intro hc hh)
                have G29 : Sealed (gv (1 - 0) = (1, 0)) := ⟨gv_ok (allowed_small (by decide))⟩
                clear g1 g2 g3 hc hh hg4 htz hD HTW
                go_upto_region 23 with fail
                go_cut [8] from 144 to 149 (fun ve wx => ve = .int .i64 5 ∧ St w wx [] [(kt, pt, tz)])
                case first =>
                  go_region_held3 (fun W => W.cell? ⟨kt, 0, none⟩ = some (.pointer pt))
                    (first
                      | exact S.out.cell 0 rfl
                      | exact S.out.dr.cell 0 rfl
                      | fail)
                    (first
                      | (go_at_call 21; go_must ((with_reducible refine (OF1.out _).mono ?_); rintro e w34 ⟨p34, rfl, hb, hn⟩; replace S := Sealed.mk (S.out.dr.res hb hn); clear hb hn))
                      | (go_at_call 25; go_must ((with_reducible refine (Shift_two GT1.out (S.out.num 0 rfl) (S.out.cnum 0 rfl)).mono ?_); rintro e w34' ⟨p34', rfl, hb, hn⟩; replace S := Sealed.mk (S.out.res hb hn); clear hb hn)))
                  all_goals
                    go_wp2_with fail
                    go_meet
                    case rel => exact ⟨rfl, S.out.clr⟩
                case rest =>
                  obtain ⟨rfl, hS⟩ := hcut
                  obtain ⟨W35, hW35⟩ : ∃ W35, W35 = wc := ⟨_, rfl⟩
                  rw [← hW35] at hS ⊢
                  clear hW35
                  replace S := Sealed.mk hS
                  clear hS
                  go_upto_region 24 with fail
                  go_cut [18, 10] from 150 to 155 (fun vn ve wx => ∃ kn pn, vn = .pointer (some ⟨kn, 0, none⟩) ∧ ve = .int .i64 0 ∧ St w wx [] [(kn, pn, D), (kt, pt, tz)])
                  case first =>
                    go_region_held3 (fun W => W.cell? ⟨kt, 0, none⟩ = some (.pointer pt))
                      (first
                        | exact S.out.cell 0 rfl
                        | exact S.out.dr.cell 0 rfl
                        | exact S.out.cell 1 rfl
                        | exact (S.out.new (NumIs.zero _)).dr.cell 1 rfl
                        | exact (S.out.new (NumIs.zero _)).cell 1 rfl
                        | exact (S.out.put 0 rfl (S.out.num 0 rfl)).cell 1 rfl
                        | exact (S.out.new (S.out.num 0 rfl)).cell 1 rfl
                        | fail)
                      (first
                        | (go_at_call 21; go_must ((with_reducible refine (OF1.out _).mono ?_); rintro e w36 ⟨p36, rfl, hb, hn⟩; first | (replace S := Sealed.mk (S.out.dr.res hb hn)) | (replace S := Sealed.mk ((S.out.new (NumIs.zero _)).dr.res hb hn)); clear hb hn))
                        | (go_at_call 33; go_must (first
                            | ((with_reducible refine (Sub_two GT2.out (S.out.cnum 0 rfl) (S.out.num 0 rfl)).mono ?_); rintro e w36' ⟨p36', rfl, hb, hn⟩; replace S := Sealed.mk (S.out.res hb hn); clear hb hn)
                            | ((with_reducible refine (Sub_two GT2.out (S.out.cnum 1 rfl) (S.out.num 0 rfl)).mono ?_); rintro e w36' ⟨p36', rfl, hb, hn⟩; replace S := Sealed.mk (S.out.res hb hn); have zc := S.out.cell 0 rfl; have zf := S.out.frozen 0 rfl; clear hb hn)
                            | ((with_reducible refine (Sub_two GT2.out ((S.out.new (NumIs.zero _)).cnum 1 rfl) ((S.out.new (NumIs.zero _)).num 0 rfl)).mono ?_); rintro e w36' ⟨p36', rfl, hb, hn⟩; replace S := Sealed.mk ((S.out.new (NumIs.zero _)).res hb hn); have zc := S.out.cell 0 rfl; have zf := S.out.frozen 0 rfl; clear hb hn))))
                    all_goals
                      go_wp2_with fail
                      go_meet
                      case rel =>
                        first
                          | exact ⟨_, _, rfl, rfl, (S.out.new (S.out.num 0 rfl)).clr⟩
                          | exact ⟨_, _, rfl, rfl, (S.out.put 0 rfl (S.out.num 0 rfl)).clr⟩
                  case rest =>
                    obtain ⟨kn36, pn36, rfl, rfl, hS⟩ := hcut
                    obtain ⟨W36, hW36⟩ : ∃ W36, W36 = wc := ⟨_, rfl⟩
                    rw [← hW36] at hS ⊢
                    clear hW36
                    replace S := Sealed.mk hS
                    clear hS
                    go_upto_region 25 with fail
                    go_cut [172] from 156 to 172 (fun v wx => v = .bool false ∧ Below W36.heap.size W36 wx)
                    case first =>
                      have HB := Sealed.mk (Below.refl W36.heap.size W36)
                      have ld0 := S.out.cell 0 rfl
                      have ld1 := S.out.cell 1 rfl
                      go_wp2_with (first
                        | (go_at_call 43; go_must (first
                            | ((with_reducible refine (Height_any (S.out.cnum 1 rfl)).mono ?_); rintro e w37 ⟨rfl, hb⟩; rw [HD.out.2]; replace S := Sealed.mk (S.out.adv hb); replace HB := Sealed.mk (below_chain HB.out hb); clear hb; have lx0 := S.out.cell 0 rfl; have lx1 := S.out.cell 1 rfl)))
                        | (go_at_call 37; go_must (first
                            | ((with_reducible refine (Cmp_any (S.out.cnum 0 rfl) (S.out.cnum 1 rfl)).mono ?_); rintro e w38 ⟨rfl, hb⟩; rw [HD.out.1]; replace S := Sealed.mk (S.out.adv hb); replace HB := Sealed.mk (below_chain HB.out hb); clear hb; have lx0 := S.out.cell 0 rfl; have lx1 := S.out.cell 1 rfl))))
                      all_goals
                        go_meet
                        case rel => exact ⟨by first | rfl | simp, HB.out⟩
                    case rest =>
                      obtain ⟨rfl, hbc⟩ := hcut
                      obtain ⟨W39, hW39⟩ : ∃ W39, W39 = wc := ⟨_, rfl⟩
                      rw [← hW39] at hbc ⊢
                      clear hW39
                      replace S := Sealed.mk (S.out.adv hbc)
                      clear hbc
                      go_upto_region 27 with fail
                      go_upto_region 28 with (go_at_call 27; go_must ((with_reducible refine (Sum_two G6.out (HT.out.2.2.1.below S.out.below)).mono ?_); rintro e w40 ⟨p40, rfl, hb, hn⟩; replace S := Sealed.mk (S.out.res hb hn); clear hb hn))
                      have S0 := (S.out.new (S.out.num 0 rfl)).clr
                      obtain ⟨W41, hW41⟩ : ∃ W41, W41 = w40.alloc (.cells #[.pointer p40] 30) := ⟨_, rfl⟩
                      rw [← hW41] at S0 ⊢
                      replace S := Sealed.mk S0; clear S0 hW41
                      go_upto_region 29 with (go_at_call 27; go_must ((with_reducible refine (Sum_two G7.out (HT.out.2.2.2.below S.out.below)).mono ?_); rintro e w42 ⟨p42, rfl, hb, hn⟩; replace S := Sealed.mk (S.out.res hb hn); clear hb hn))
                      have S0 := (S.out.new (S.out.num 0 rfl)).clr
                      obtain ⟨W43, hW43⟩ : ∃ W43, W43 = w42.alloc (.cells #[.pointer p42] 30) := ⟨_, rfl⟩
                      rw [← hW43] at S0 ⊢
                      replace S := Sealed.mk S0; clear S0 hW43
                      go_upto_region 30 with (first
                        | (go_at_call 21; go_must (first
                            | ((with_reducible refine (OF1.out _).mono ?_); rintro e w44 ⟨p44, rfl, hb, hn⟩; replace S := Sealed.mk (S.out.res hb hn); clear hb hn)
                            | ((with_reducible refine (OF0.out _).mono ?_); rintro e w44' ⟨p44', rfl, hb, hn⟩; replace S := Sealed.mk (S.out.res hb hn); clear hb hn)))
                        | (go_at_call 33; go_must ((with_reducible refine (Sub_two G29.out (S.out.num 1 rfl) (S.out.num 0 rfl)).mono ?_); rintro e w45 ⟨p45, rfl, hb, hn⟩; replace S := Sealed.mk (S.out.res hb hn); clear hb hn)))
                      have S0 := (S.out.new (S.out.num 0 rfl)).clr
                      obtain ⟨W46, hW46⟩ : ∃ W46, W46 = w45.alloc (.cells #[.pointer p45] 30) := ⟨_, rfl⟩
                      rw [← hW46] at S0 ⊢
                      replace S := Sealed.mk S0; clear S0 hW46
                      have ld0 := S.out.cell 1 rfl
                      have ld1 := S.out.cell 2 rfl
                      go_upto_region 31 with (go_at_call 34; go_must ((with_reducible refine (Mul_two G8.out (S.out.cnum 1 rfl) (S.out.cnum 2 rfl)).mono ?_); rintro e w47 ⟨p47, rfl, hb, hn⟩; replace S := Sealed.mk (S.out.res hb hn); clear hb hn))
                      clear ld0 ld1
                      have S0 := (S.out.new (S.out.num 0 rfl)).clr
                      obtain ⟨W48, hW48⟩ : ∃ W48, W48 = w47.alloc (.cells #[.pointer p47] 30) := ⟨_, rfl⟩
                      rw [← hW48] at S0 ⊢
                      replace S := Sealed.mk S0; clear S0 hW48
                      have ld0 := S.out.cell 3 rfl
                      have ld1 := S.out.cell 1 rfl
                      go_upto_region 32 with (go_at_call 34; go_must ((with_reducible refine (Mul_two G9.out (S.out.cnum 3 rfl) (S.out.cnum 1 rfl)).mono ?_); rintro e w49 ⟨p49, rfl, hb, hn⟩; replace S := Sealed.mk (S.out.res hb hn); clear hb hn))
                      clear ld0 ld1
                      have S0 := (S.out.new (S.out.num 0 rfl)).clr
                      obtain ⟨W50, hW50⟩ : ∃ W50, W50 = w49.alloc (.cells #[.pointer p49] 30) := ⟨_, rfl⟩
                      rw [← hW50] at S0 ⊢
                      replace S := Sealed.mk S0; clear S0 hW50
                      have ld0 := S.out.cell 4 rfl
                      go_upto_region 33 with (go_at_call 34; go_must ((with_reducible refine (Mul_two G10.out (S.out.cnum 4 rfl) (S.out.cnum 4 rfl)).mono ?_); rintro e w51 ⟨p51, rfl, hb, hn⟩; replace S := Sealed.mk (S.out.res hb hn); clear hb hn))
                      clear ld0
                      have S0 := (S.out.new (S.out.num 0 rfl)).clr
                      obtain ⟨W52, hW52⟩ : ∃ W52, W52 = w51.alloc (.cells #[.pointer p51] 30) := ⟨_, rfl⟩
                      rw [← hW52] at S0 ⊢
                      replace S := Sealed.mk S0; clear S0 hW52
                      have ld0 := S.out.cell 1 rfl
                      have ld1 := S.out.cell 5 rfl
                      have ld2 := S.out.cell 0 rfl
                      go_wp2_with (first
                        | (go_at_call 20; go_must ((with_reducible refine (lawSame_any (S.out.cnum 1 rfl) (S.out.cnum 5 rfl)).mono ?_); rintro e wD ⟨rfl, hb⟩; replace S := Sealed.mk (S.out.adv hb); have lx0 := S.out.cell 1 rfl; have lx1 := S.out.cell 5 rfl; have lx2 := S.out.cell 0 rfl; clear hb))
                        | (go_at_call 42; go_must ((with_reducible refine (Sign_any (S.out.cnum 0 rfl)).mono ?_); rintro e wE ⟨rfl, hb⟩; rw [G11.out]; replace S := Sealed.mk (S.out.adv hb); clear hb))
                        | (go_at_call 15; go_must ((with_reducible refine (awake1_any _).mono ?_); rintro e w999 ⟨rfl, hb⟩; replace S := Sealed.mk (S.out.adv hb); clear hb)))
                      go_ret
                      exact ⟨rfl, below_chain HB00.out S.out.below⟩

end Go.Proofs.Ytgchfbfgjanaiaa

namespace Go.Proofs.Ytgchfbfgjanaiaa.RowK
open Go.ChangeShapes Go.WideShapes Go.ChangeAt Go.RowKit Sr
set_option linter.unusedVariables false

section
variable {H : Type} {enc : TypeId × Value → H} {W : World} {base : Nat} {sp : Nat → Bool} {held : Bool}

theorem cells_i8 : Try.prog.cellsOf 79 = 1 := by kernel_rfl

theorem wf8 {n : Int} (h : (Lit.int .i8 n).wf = true) : -128 ≤ n ∧ n ≤ 127 := by
  have := h
  simp [Lit.wf, go_sem] at this
  exact this
theorem wfu8 {n : Int} (h : (Lit.int .u8 n).wf = true) : 0 ≤ n ∧ n ≤ 255 := by
  have := h
  simp [Lit.wf, go_sem] at this
  exact this

theorem open_i8s {v : Value} {d : DataW H} {p : List MemPlace} (hv : ∃ a n c, v = .slice a n c) (h : DataW.Trod enc Try.prog W 0 (fun _ => true) true 54 v d p) : ∃ l, I8At W v l := by
  obtain ⟨a, n, c, rfl⟩ := hv
  obtain ⟨fuel, h⟩ := h
  rcases Go.Deep.open_slice Try.underlying54 h with ⟨e, -⟩ | ⟨a', len, cap, m, k, D, Pl, e, -, hl, hm, hmc, -, hel⟩
  · simp [Value.cells] at e
    obtain ⟨rfl, rfl, rfl⟩ := e
    exact ⟨[], none, 0, rfl, Nat.le_refl _, fun t ht => by simp at ht, fun hne => absurd rfl hne⟩
  · simp [Value.cells] at e
    obtain ⟨rfl, rfl, rfl⟩ := e
    simp only [if_true] at hmc
    subst hmc
    rw [cells_i8] at hel
    have key : ∀ i, i < n → ∃ t : Int, (-128 ≤ t ∧ t ≤ 127) ∧ a'.spot = none ∧ a'.block < W.heap.size ∧ W.cell? ⟨a'.block, a'.off + i, none⟩ = some (.int .i8 t) := fun i hi => by
      obtain ⟨cs, h1, h2⟩ := hel i (by omega)
      obtain ⟨z, rfl, -, hw⟩ := DataW.trod_int Try.underlying79 h2
      obtain ⟨-, -, hc⟩ := World.cells?_some h1
      have c0 := hc 0 (by decide)
      have hs0 : a'.spot = none := by
        obtain ⟨cs0, g1, g2⟩ := hel 0 (by omega)
        obtain ⟨z0, rfl, -, -⟩ := DataW.trod_int Try.underlying79 g2
        obtain ⟨-, -, gc⟩ := World.cells?_some g1
        exact World.cell?_spot (by simpa [Addr.add] using gc 0 (by decide))
      obtain ⟨ab, ao, as_⟩ := a'
      simp only at hs0
      subst hs0
      rw [add_off] at c0
      rw [add_off] at c0
      have c0' : W.cell? ⟨ab, ao + i, none⟩ = some (.int .i8 z) := by simpa using c0
      exact ⟨z, wf8 hw, rfl, lt_of_cell c0', c0'⟩
    obtain ⟨f, hf⟩ := Go.Deep.choose_lt key
    refine ⟨(List.range n).map f, some a', _, by simp; rfl, by simpa using hl, fun t ht => ?_, fun hne => ?_⟩
    · obtain ⟨i, hi, rfl⟩ := List.mem_map.1 ht
      exact (hf i (List.mem_range.1 hi)).1
    · have hn : 0 < n := by
        rcases Nat.eq_zero_or_pos n with h0 | h0
        · subst h0; exact absurd rfl hne
        · exact h0
      obtain ⟨ab, ao, as_⟩ := a'
      obtain ⟨-, hs, hb, -⟩ := hf 0 hn
      simp only at hs
      subst hs
      refine ⟨ab, ao, rfl, hb, fun i t ht => ?_⟩
      have hi : i < n := by
        have := (List.getElem?_eq_some_iff.1 ht).1
        simpa using this
      rw [List.getElem?_map, List.getElem?_range hi] at ht
      simp at ht
      subst ht
      exact (hf i hi).2.2.2

set_option maxRecDepth 100000 in
theorem open_u8 {r : Reach} {b : Nat} {v : Value} {d : DataW H} {p : List MemPlace} (hv : Value.okWide Try.prog W r b 5 v) (h : DataW.Trod enc Try.prog W 0 (fun _ => true) true 5 v d p) :
    ∃ n : Nat, v = .int .u8 (n : Int) ∧ n ≤ 255 := by
  obtain ⟨n, rfl⟩ := okWide_int Try.underlying5 hv
  obtain ⟨fuel, h⟩ := h
  obtain ⟨n', e, -, hw⟩ := DataW.trod_int Try.underlying5 h
  obtain rfl : n = n' := by simpa [Value.cells] using e
  obtain ⟨h1, h2⟩ := wfu8 hw
  exact ⟨n.toNat, by rw [Int.toNat_of_nonneg h1], by omega⟩

end

end Go.Proofs.Ytgchfbfgjanaiaa.RowK
