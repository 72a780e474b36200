/- num.world.sum -/
import Derived.Test.YtgchfbfgjanaiaaJ16
import Derived.Deep.LoopGhost
import Derived.Deep.DeepCutAuto
set_option linter.unusedSimpArgs false
set_option linter.unusedVariables false
namespace Go.Proofs.Ytgchfbfgjanaiaa
open Go.RowKit Sr
structure Met (L : List (Bool × Nat)) (xs : List Nat) (cl : List (Int × Int)) : Prop where
  nodup : xs.Nodup
  mem : ∀ i, i ∈ xs ↔ ∃ t ∈ L, t.2 = i
  count : ∀ i : Nat, lookK cl (i : Int) = if i ∈ xs then some (cntV L i) else none
  apart : KeysApart cl
theorem Met.nil : Met [] [] [] := ⟨by simp, by simp, fun i => by simp [lookK], List.Pairwise.nil⟩
theorem Met.len {L : List (Bool × Nat)} {xs : List Nat} {cl : List (Int × Int)} (h : Met L xs cl) : xs.length ≤ L.length := by
  have h1 : ∀ x ∈ xs, x ∈ L.map (·.2) := fun x hx => by
    obtain ⟨t, ht, rfl⟩ := (h.mem x).1 hx
    exact List.mem_map.2 ⟨t, ht, rfl⟩
  have : ∀ (a b : List Nat), a.Nodup → (∀ x ∈ a, x ∈ b) → a.length ≤ b.length := by
    intro a
    induction a with
    | nil => intro b _ _; simp
    | cons x a ih =>
      intro b hd hs
      obtain ⟨hx, hd'⟩ := List.nodup_cons.1 hd
      have hxb : x ∈ b := hs x (by simp)
      have hlen := List.length_erase_of_mem hxb
      have hpos := List.length_pos_of_mem hxb
      have := ih (b.erase x) hd' fun y hy => (List.mem_erase_of_ne (fun e : y = x => hx (e ▸ hy))).2 (hs y (by simp [hy]))
      simp only [List.length_cons]
      omega
  simpa using this xs _ h.nodup h1
theorem Met.old {L : List (Bool × Nat)} {xs : List Nat} {cl : List (Int × Int)} (h : Met L xs cl) {t : Bool × Nat} (ht : t.2 ∈ xs) :
    Met (L ++ [t]) xs (putK cl (t.2 : Int) (cntV L t.2 + Sr.one t.1)) where
  nodup := h.nodup
  mem := fun i => by
    rw [h.mem]
    constructor
    · rintro ⟨u, hu, e⟩; exact ⟨u, by simp [hu], e⟩
    · rintro ⟨u, hu, e⟩
      rcases List.mem_append.1 hu with hu | hu
      · exact ⟨u, hu, e⟩
      · simp at hu; subst hu; subst e; exact (h.mem _).1 ht
  count := fun i => by
    rw [lookK_putK, cntV_append]
    by_cases e : i = t.2
    · subst e; simp [cntV, ht]
    · rw [if_neg (by omega), h.count]
      simp [cntV, show ¬ t.2 = i from fun q => e q.symm]
  apart := h.apart.put _ _
theorem Met.new {L : List (Bool × Nat)} {xs : List Nat} {cl : List (Int × Int)} (h : Met L xs cl) {t : Bool × Nat} (ht : t.2 ∉ xs) :
    Met (L ++ [t]) (xs ++ [t.2]) (putK cl (t.2 : Int) (0 + Sr.one t.1)) where
  nodup := by
    rw [List.nodup_append]
    refine ⟨h.nodup, by simp, ?_⟩
    intro a ha b hb
    simp at hb
    subst hb
    intro e
    exact ht (e ▸ ha)
  mem := fun i => by
    constructor
    · intro hi
      rcases List.mem_append.1 hi with hi | hi
      · obtain ⟨u, hu, e⟩ := (h.mem i).1 hi; exact ⟨u, by simp [hu], e⟩
      · simp at hi; subst hi; exact ⟨t, by simp, rfl⟩
    · rintro ⟨u, hu, e⟩
      rcases List.mem_append.1 hu with hu | hu
      · exact List.mem_append_left _ ((h.mem i).2 ⟨u, hu, e⟩)
      · simp at hu; subst hu; subst e; simp
  count := fun i => by
    rw [lookK_putK, cntV_append]
    by_cases e : i = t.2
    · subst e
      have : cntV L t.2 = 0 := cntV_out fun u hu e => ht ((h.mem _).2 ⟨u, hu, e⟩)
      simp [cntV, this]
    · rw [if_neg (by omega), h.count]
      simp [cntV, e, show ¬ t.2 = i from fun q => e q.symm]
  apart := h.apart.put _ _
theorem Met.get {L : List (Bool × Nat)} {xs : List Nat} {cl : List (Int × Int)} (h : Met L xs cl) (i : Nat) : (lookK cl (i : Int)).getD 0 = cntV L i := by
  rw [h.count]
  by_cases hi : i ∈ xs
  · simp [hi]
  · simp [hi]
    exact (cntV_out fun u hu e => hi ((h.mem _).2 ⟨u, hu, e⟩)).symm
theorem kept_own {w w1 : World} {N e s n : Nat} {v : Value} {xs : List Value} (h : w.ownsRow (N + 1) e s v n xs) (hg : w.grownBy w1 (some N)) : w1.ownsRow (N + 1) e s v n xs := by
  refine h.kept hg ?_
  cases hv : v.ownBlock with
  | none => exact .inl rfl
  | some q => exact .inr fun e => by have := (h.lt q hv).1; have e' : q = N := Option.some.inj e; omega
theorem heap_chain {M N : Nat → Prop} {wa wb wd : World} {g0 g : Nat} (h1 : Ext M wa wb) (h2 : Ext N wb wd) (hg : g < g0) (hle : g0 ≤ wa.heap.size) (hn : ¬ M g) (hN : ∀ q, N q → g0 ≤ q) : wd.heap[g]? = wa.heap[g]? :=
  (h2.block g (by have := h1.size; omega) (fun e => by have := hN g e; omega)).trans (h1.block g (by omega) hn)
theorem kept_old {w w1 : World} {N e s n : Nat} {v : Value} {xs : List Value} {o : Obj} (h : w.ownsRow (N + 1) e s v n xs) (hg : (w.alloc o).grownBy w1 (some N)) : w1.ownsRow (N + 1) e s v n xs :=
  kept_own (h.alloc o) hg
set_option maxRecDepth 100000 in
set_option maxHeartbeats 4000000 in
theorem sum_any {w : World} {b : WB} {vs U : List Int} (h : WInv w b vs U) {v : Value} {tl : List T} (hl : TL w v (encL vs tl)) (hlen : tl.length ≤ 30000) (hc : ∀ t ∈ tl, (t.2 : Int) ∈ vs) (hv : ∀ k, v.ownBlock = some k → ¬ b.M k)
    (hnext : ∀ p, SumAt tl p → NextOK U p) :
    Calls Try.prog 73 #[.pointer (some ⟨b.p, 0, none⟩), v] w fun e w' => ∃ vs' b' a c, e = .returned (.slice a (enc vs' (val tl)).length c) ∧
      w'.ownsRow w.heap.size 98 2 (.slice a (enc vs' (val tl)).length c) (enc vs' (val tl)).length (tcells (enc vs' (val tl))) ∧ (enc vs' (val tl)).length ≤ 100000 ∧ Cov vs' (val tl) ∧
      WStep U w w' b b' vs vs' ∧ FStep noB w w' b b' vs vs' ∧ ∀ k, (Value.slice a (enc vs' (val tl)).length c).ownBlock = some k → ¬ b'.M k := by
  obtain ⟨a, n, c, rfl⟩ := hl.slice
  obtain ⟨hn, hn1, hnc, -⟩ := hl.cells
  have hn3 : n ≤ 30000 := by rw [hn]; simpa [encL] using hlen
  have hn2 : (encL vs tl).length = n := hn.symm
  clear hn
  have HL := Sealed.mk hl; clear hl
  have H := Sealed.mk h; clear h
  have HV := Sealed.mk hv; clear hv
  have HCov := Sealed.mk hc; clear hc
  have HN := Sealed.mk hnext; clear hnext
  have HLEN := Sealed.mk hn2; clear hn2 hlen
  have hmm := @run_makeMap Try.prog
  go_enter Try.func73, Try.ntmps73
  go_wp2_with fail
  go_loopw [6, 21] (fun ev i wr => ∃ (k : Nat) (xs : List Nat) (cl : List (Int × Int)), k ≤ n ∧ i = .int .i64 k ∧ wr.ownsRow (w.heap.size + 1) 3 1 ev xs.length (icells xs) ∧ MapIs (fun n : Int => Value.int .i64 n) wr w.heap.size cl ∧
    Met ((encL vs tl).take k) xs cl ∧ Below w.heap.size w wr) (fun _ i _ => n - (intOf i).toNat)
  case atStart =>
    refine ⟨0, [], [], Nat.zero_le _, rfl, ?_, MapIs.made w, by simpa using Met.nil, (Below.refl _ _).alloc (Nat.le_refl _) _⟩
    exact ⟨rfl, .inl ⟨rfl, rfl⟩⟩
  case round =>
    obtain ⟨k, xs, cl, hk, rfl, hown, hmap, hmet, hb⟩ := hrel
    by_cases hkn : k < n
    · obtain ⟨t, ht⟩ : ∃ t, (encL vs tl)[k]? = some t := ⟨_, List.getElem?_eq_getElem (by rw [HLEN.out]; exact hkn)⟩
      obtain ⟨-, -, -, hcell⟩ := (HL.out.below hb).cells
      obtain ⟨b0, o0, rfl, h1, h2⟩ := hcell k t ht
      clear hcell
      have hb0 := lt_of_cell h1
      obtain ⟨m, q⟩ := t
      dsimp only at h1 h2
      have hsz := hb.size
      have hms := hmap.lt
      have hg := hmet.get q
      have hle := cntV_le ((encL vs tl).take k) q
      have hlk0 : (lookK cl (q : Int)).isSome = decide (q ∈ xs) := by rw [hmet.count]; split <;> simp_all
      obtain ⟨r, hr⟩ : ∃ r, r = cntV ((encL vs tl).take k) q := ⟨_, rfl⟩
      rw [← hr] at hg hle
      have hle2 : -30000 ≤ r ∧ r ≤ 30000 := by simp at hle; omega
      clear hle
      obtain ⟨W1, hW1⟩ : ∃ W1, W1 = wr.alloc (.cells #[.bool m, .int .i64 (q : Int)] 98) := ⟨_, rfl⟩
      have kb : W1.heap[wr.heap.size]? = some (.cells #[.bool m, .int .i64 (q : Int)] 98 (0, 0)) := by rw [hW1]; exact blk_alloc _ _
      have k0 := cell_of_blk kb 0
      have k1 := cell_of_blk kb 1
      simp only [List.getElem?_toArray, List.getElem?_cons_zero, List.getElem?_cons_succ] at k0 k1
      have hm1 : MapIs (fun n : Int => Value.int .i64 n) W1 w.heap.size cl := hmap.same (by rw [hW1]; exact Below.heap_alloc wr _ _ hmap.lt)
      have lk1 : (Instr.lookup 104 (.map (some w.heap.size)) (.int .i64 (q : Int)) true).run Try.prog W1 = .ok (.tuple #[.int .i64 r, .bool (decide (q ∈ xs))]) W1 := by
        have := run_lookup_ok kk_int Try.underlying104 zero_int hm1 (q : Int)
        rw [hg, hlk0] at this
        exact this
      have lk2 : (Instr.lookup 104 (.map (some w.heap.size)) (.int .i64 (q : Int)) false).run Try.prog W1 = .ok (.int .i64 r) W1 := by
        have := run_lookup kk_int Try.underlying104 zero_int hm1 (q : Int)
        rw [hg] at this
        exact this
      have HO := Sealed.mk hown; clear hown
      have HM := Sealed.mk hmet; clear hmet
      have HM1 := Sealed.mk hm1; clear hm1 hmap
      have HT := Sealed.mk ht; clear ht
      have HR := Sealed.mk hr; clear hr
      rw [hW1] at lk1 lk2
      have HW1 := Sealed.mk hW1; clear hW1 kb k0 k1
      have HG := Sealed.mk hg; clear hg hlk0 hb0
      have hw1 : IntKind.i64.wrap (r + 1) = r + 1 := by rw [IntKind.wrap_i64]; omega
      have hw2 : IntKind.i64.wrap (r - 1) = r - 1 := by rw [IntKind.wrap_i64]; omega
      have hw3 : wrap64 (r + 1) = r + 1 := by unfold wrap64; omega
      have hw4 : wrap64 (r - 1) = r - 1 := by unfold wrap64; omega
      cases m
      · by_cases hq : q ∈ xs
        · rw [decide_eq_true hq] at lk1
          have HQ := Sealed.mk hq; clear hq
          go_wp2_with (refine wp_update kk_int Try.underlying104 (.tmp 46) (.tmp 48) (.tmp 50) rfl rfl HM.out.apart (l := cl) (r := w.heap.size) (HW1.out ▸ HM1.out) (q : Int) (r + 1) rfl rfl rfl ?_)
          intro w3 hm3 hg3
          have HM3 := Sealed.mk hm3; clear hm3
          have HG3 := Sealed.mk hg3; clear hg3
          go_wp2_with fail
          go_roundw
          case rel => exact ⟨k + 1, xs, _, by omega, by go_num, kept_old HO.out HG3.out, HM3.out, by have := HM.out.old (t := (false, q)) HQ.out; rw [← HR.out] at this; rw [take_snoc HT.out]; exact this, (hb.alloc hb.size _).grown HG3.out (by simp; omega) (fun k hk => by simp at hk; omega)⟩
          case measure => simp [intOf]; omega
        · rw [decide_eq_false hq] at lk1
          have HQ := Sealed.mk hq; clear hq
          go_wp2_with (at_builtin; go_must (refine ap_lit (m := 1) el_int (.tmp 34) (.tmp 37) rfl rfl rfl (HO.out.alloc _) rfl (by simp) rfl ?h1 ?h2 ?h3 ?h4))
          case h1 => simp [Value.oneCell']
          case h2 => have := HM.out.len; simp at this; omega
          case h3 => simp; omega
          case h4 =>
            intro v' w' hown' hgrow hnew
            have hne : ∀ i, u6.ownBlock = some i → i < wr.heap.size ∧ i ≠ w.heap.size := fun i hi => by have := HO.out.lt i hi; omega
            have kb : w'.heap[wr.heap.size]? = some (.cells #[.bool false, .int .i64 (q : Int)] 98 (0, 0)) := (hgrow.block wr.heap.size (by simp) (fun e => by have := hne _ e.symm; omega)).trans (blk_alloc _ _)
            have k0 := cell_of_blk kb 0
            have k1 := cell_of_blk kb 1
            simp only [List.getElem?_toArray, List.getElem?_cons_zero, List.getElem?_cons_succ] at k0 k1
            have hm1 : MapIs (fun n : Int => Value.int .i64 n) w' w.heap.size cl := (HW1.out ▸ HM1.out : MapIs _ (wr.alloc _) _ _).same (hgrow.block w.heap.size (by simp; omega) (fun e => (hne _ e.symm).2 rfl))
            have lk3 : (Instr.lookup 104 (.map (some w.heap.size)) (.int .i64 (q : Int)) false).run Try.prog w' = .ok (.int .i64 r) w' := by
              have := run_lookup kk_int Try.underlying104 zero_int hm1 (q : Int)
              rw [HG.out] at this
              exact this
            have hs' := hgrow.size
            simp at hs'
            clear kb hne lk1 lk2
            have HO' := Sealed.mk hown'; clear hown'
            have HG' := Sealed.mk hgrow; clear hgrow
            have HM1' := Sealed.mk hm1; clear hm1 hnew
            go_wp2_with (refine wp_update kk_int Try.underlying104 (.tmp 46) (.tmp 48) (.tmp 50) rfl rfl HM.out.apart (l := cl) (r := w.heap.size) HM1'.out (q : Int) (r + 1) rfl rfl rfl ?_)
            intro w3 hm3 hg3
            have HM3 := Sealed.mk hm3; clear hm3
            have HG3 := Sealed.mk hg3; clear hg3
            go_wp2_with fail
            have hr0 : r = 0 := by have := HG.out; rw [HM.out.count, if_neg HQ.out] at this; simpa using this.symm
            go_roundw
            case rel => exact ⟨k + 1, xs ++ [q], _, by omega, by go_num, by have := kept_own HO'.out HG3.out; simpa [icells] using this, HM3.out, by have := HM.out.new (t := (false, q)) HQ.out; rw [take_snoc HT.out, show r + 1 = 0 + Sr.one false by rw [hr0]; rfl]; exact this, ((hb.alloc hb.size _).grown HG'.out (by simp; omega) (fun k hk => by have := own_ge HO.out k hk; omega)).grown HG3.out (by omega) (fun k hk => by simp at hk; omega)⟩
            case measure => simp [intOf]; omega
      · by_cases hq : q ∈ xs
        · rw [decide_eq_true hq] at lk1
          have HQ := Sealed.mk hq; clear hq
          go_wp2_with (refine wp_update kk_int Try.underlying104 (.tmp 41) (.tmp 43) (.tmp 45) rfl rfl HM.out.apart (l := cl) (r := w.heap.size) (HW1.out ▸ HM1.out) (q : Int) (r - 1) rfl rfl rfl ?_)
          intro w3 hm3 hg3
          have HM3 := Sealed.mk hm3; clear hm3
          have HG3 := Sealed.mk hg3; clear hg3
          go_wp2_with fail
          go_roundw
          case rel => exact ⟨k + 1, xs, _, by omega, by go_num, kept_old HO.out HG3.out, HM3.out, by have := HM.out.old (t := (true, q)) HQ.out; rw [← HR.out] at this; rw [take_snoc HT.out]; exact this, (hb.alloc hb.size _).grown HG3.out (by simp; omega) (fun k hk => by simp at hk; omega)⟩
          case measure => simp [intOf]; omega
        · rw [decide_eq_false hq] at lk1
          have HQ := Sealed.mk hq; clear hq
          go_wp2_with (at_builtin; go_must (refine ap_lit (m := 1) el_int (.tmp 34) (.tmp 37) rfl rfl rfl (HO.out.alloc _) rfl (by simp) rfl ?h1 ?h2 ?h3 ?h4))
          case h1 => simp [Value.oneCell']
          case h2 => have := HM.out.len; simp at this; omega
          case h3 => simp; omega
          case h4 =>
            intro v' w' hown' hgrow hnew
            have hne : ∀ i, u6.ownBlock = some i → i < wr.heap.size ∧ i ≠ w.heap.size := fun i hi => by have := HO.out.lt i hi; omega
            have kb : w'.heap[wr.heap.size]? = some (.cells #[.bool true, .int .i64 (q : Int)] 98 (0, 0)) := (hgrow.block wr.heap.size (by simp) (fun e => by have := hne _ e.symm; omega)).trans (blk_alloc _ _)
            have k0 := cell_of_blk kb 0
            have k1 := cell_of_blk kb 1
            simp only [List.getElem?_toArray, List.getElem?_cons_zero, List.getElem?_cons_succ] at k0 k1
            have hm1 : MapIs (fun n : Int => Value.int .i64 n) w' w.heap.size cl := (HW1.out ▸ HM1.out : MapIs _ (wr.alloc _) _ _).same (hgrow.block w.heap.size (by simp; omega) (fun e => (hne _ e.symm).2 rfl))
            have lk3 : (Instr.lookup 104 (.map (some w.heap.size)) (.int .i64 (q : Int)) false).run Try.prog w' = .ok (.int .i64 r) w' := by
              have := run_lookup kk_int Try.underlying104 zero_int hm1 (q : Int)
              rw [HG.out] at this
              exact this
            have hs' := hgrow.size
            simp at hs'
            clear kb hne lk1 lk2
            have HO' := Sealed.mk hown'; clear hown'
            have HG' := Sealed.mk hgrow; clear hgrow
            have HM1' := Sealed.mk hm1; clear hm1 hnew
            go_wp2_with (refine wp_update kk_int Try.underlying104 (.tmp 41) (.tmp 43) (.tmp 45) rfl rfl HM.out.apart (l := cl) (r := w.heap.size) HM1'.out (q : Int) (r - 1) rfl rfl rfl ?_)
            intro w3 hm3 hg3
            have HM3 := Sealed.mk hm3; clear hm3
            have HG3 := Sealed.mk hg3; clear hg3
            go_wp2_with fail
            have hr0 : r = 0 := by have := HG.out; rw [HM.out.count, if_neg HQ.out] at this; simpa using this.symm
            go_roundw
            case rel => exact ⟨k + 1, xs ++ [q], _, by omega, by go_num, by have := kept_own HO'.out HG3.out; simpa [icells] using this, HM3.out, by have := HM.out.new (t := (true, q)) HQ.out; rw [take_snoc HT.out, show r - 1 = 0 + Sr.one true by rw [hr0]; rfl]; exact this, ((hb.alloc hb.size _).grown HG'.out (by simp; omega) (fun k hk => by have := own_ge HO.out k hk; omega)).grown HG3.out (by omega) (fun k hk => by simp at hk; omega)⟩
            case measure => simp [intOf]; omega
    · have hk' : k = n := by omega
      subst hk'
      have hmet' : Met (encL vs tl) xs cl := by rw [← HLEN.out, List.take_length] at hmet; exact hmet
      have hlt : ∀ i ∈ xs, i < vs.length := fun i hi => by
        obtain ⟨t, ht, rfl⟩ := (hmet'.mem i).1 hi
        obtain ⟨t', ht', rfl⟩ := List.mem_map.1 ht
        exact List.idxOf_lt_length_of_mem (HCov.out t' ht')
      have hxl : xs.length ≤ 100000 := by have := hmet'.len; rw [HLEN.out] at this; omega
      have hsort := sort_any (H.out.below hb) hown hlt hmet'.nodup hxl (fun i hi => (H.out.fresh (q := i) (by have := (hown.lt i hi).1; omega)).same (Ext.of_below (M := noB) hb) (H.out.lt b.f (.inr (.inl rfl))) fun e => e)
      have HS := Sealed.mk hsort; clear hsort
      have HO := Sealed.mk hown; clear hown
      have HM := Sealed.mk hmet'; clear hmet' hmet
      have HMAP := Sealed.mk hmap; clear hmap
      go_wp2_with (go_at_call 91; go_must (refine HS.out.mono ?_; rintro e w1 ⟨rfl, hi1, he1, ys, hperm, hris, ho1⟩))
      obtain ⟨es, rfl, hup, hes⟩ := sorted_of H.out.cl HCov.out (fun i => by rw [hperm.mem_iff]; exact HM.out.mem i) hris
      have hown6 := HO.out.lt
      have hms := HMAP.out.lt
      have hcnt : ∀ e : Nat, (e : Int) ∈ vs → (lookK cl (vs.idxOf (e : Int) : Nat)).getD 0 = cntV tl e := fun e he => by rw [HM.out.get, cntV_enc HCov.out he]
      have hesv : ∀ e ∈ es, (e : Int) ∈ vs := fun e he => by obtain ⟨t, ht, rfl⟩ := (hes e).1 he; exact HCov.out t ht
      have hstep0 : WStep U w w1 b b vs vs := ⟨hi1, List.prefix_refl _, (Ext.of_below hb).trans he1 fun q hq => by
        rcases hq with rfl | hq
        · exact .inl (.inr (.inr (.inr (.inr rfl))))
        · exact .inr (by have := (hown6 q hq).1; omega), rfl, rfl, rfl, rfl, .inl rfl⟩
      have hwg := he1.size
      have hSI : SI U tl es cl w b vs w.heap.size w1.heap.size (mu (cntV tl) es 0 0) u6 (.slice none 0 0) (.int .i64 0) (.int .i64 0) w1 vs b es 0 0 [] := by
        refine { mu := rfl, s := ?_, l := ?_, cv := rfl, pv := fun h => absurd rfl h, step := hstep0, emitted := by simp, ev := ?_, cmap := ?_, mfree := ?_, mlt := by omega, gle := Nat.le_refl _, wle := Nat.le_refl _, own := ⟨rfl, .inl ⟨rfl, rfl⟩⟩, free := by simp [Value.ownBlock], fstep := ?_, len := ?_ }
        · have := SInv.start (c := cntV tl) hup 0
          rwa [tot_cnt (hup.imp (by omega)) fun t ht => (hes _).2 ⟨t, ht, rfl⟩] at this
        · exact LInv.start (hup.imp (by omega)) 0
        · rcases ho1.2 with ⟨e1, e2⟩ | ⟨g, cap, cur, e1, q0, q1, q3, q4, q5, q6⟩
          · exact ⟨none, 0, by rw [e1, e2], by omega, fun hne => absurd (List.eq_nil_of_length_eq_zero e2) hne⟩
          · refine ⟨_, cap, e1, q3, fun _ => ⟨g, 0, rfl, fun j u hu => ?_, lt_of_blk q1, fun hM => ?_⟩⟩
            · have := ho1.cells (g := g) (by rw [e1]; rfl) j u hu
              have e : (⟨g, 0, none⟩ : Addr).add j = ⟨g, 0 + j, none⟩ := by unfold Addr.add; split <;> simp_all
              rwa [e] at this
            · have := H.out.lt g hM
              have := (ho1.lt g (by rw [e1]; rfl)).1
              omega
        · exact HMAP.out.same (he1.block _ hms fun hq => by
            rcases hq with hq | hq
            · have := H.out.lt b.r3 (.inr (.inr (.inr (.inr rfl)))); omega
            · have := (hown6 _ hq).1; omega)
        · intro hM
          have := H.out.lt _ hM
          omega
        · refine FStep.same (N := fun k => k = b.r3) ((Ext.of_below hb).trans he1 fun q hq => ?_) (H.out.lt b.f (.inr (.inl rfl))) (fun e => H.out.apart.2.2.2.2.2.2.1 e)
          rcases hq with hq | hq
          · exact .inl hq
          · exact .inr (by have := (hown6 _ hq).1; omega)
        · have h1 := wt_cnt (hup.imp (by omega)) tl (es := es)
          have h2 : es.length ≤ tl.length := by
            have h3 := HM.out.len
            rw [encL_length] at h3
            have h4 := hperm.length_eq
            simp at h4
            omega
          simp [mu]
          omega
      have HSI := Sealed.mk hSI; clear hSI hstep0 hown6 hms hwg hi1 he1 ho1 hlt hxl hb
      have HES := Sealed.mk (And.intro hup (And.intro hes hesv)); clear hup hes hesv
      have HCNT := Sealed.mk hcnt; clear hcnt hperm hris HS HO HMAP
      clear hk hkn hmm
      go_loopg [6, 11, 12, 13] (mu (cntV tl) es 0 0) (fun j ev out cv pv wr => ∃ vs1 b1 xs carry p o, SI U tl es cl w b vs w.heap.size w1.heap.size j ev out cv pv wr vs1 b1 xs carry p o)
      case atStart => exact ⟨vs, b, es, 0, 0, [], HSI.out⟩
      case round =>
        obtain ⟨vs1, b1, xs, carry, p, o, hI⟩ := hrel
        obtain rfl := hI.cv
        obtain ⟨ea, ecap, rfl, hecap, her⟩ := hI.ev
        rw [List.length_map] at hI hecap ⊢
        have hbnd : carry.natAbs ≤ 30000 := by have h1 := hI.l.weight; have h2 := HLEN.out; rw [encL_length] at h2; omega
        obtain ⟨N, hN⟩ : ∃ N, N = xs.length := ⟨_, rfl⟩
        rw [← hN] at hI hecap ⊢
        have hNc : N = 0 → carry ≠ 0 ∨ xs = [] := fun h => .inr (List.eq_nil_of_length_eq_zero (by omega))
        by_cases hend : xs = [] ∧ carry = 0
        · obtain ⟨rfl, rfl⟩ := hend
          clear her hNc
          simp only [List.length_nil] at hN
          subst hN
          obtain ⟨oa, oc, rfl⟩ := own_slice hI.own
          have hrv := reverse_any hI.own (by have h1 := hI.len; have h2 := HLEN.out; rw [encL_length] at h2; omega)
          have HRV := Sealed.mk hrv; clear hrv
          have HI := Sealed.mk hI; clear hI
          go_wp2_with (go_at_call 94; go_must (refine HRV.out.mono ?_; rintro e w2 ⟨rfl, h2⟩))
          go_ret
          have hI := HI.out
          obtain ⟨hown2, hext2⟩ := h2
          have hform : form (val tl) = o := hI.s.done
          have hcells : encL vs1 o.reverse = (enc vs1 (val tl)).reverse := by
            rw [← encL_form, hform]; simp [encL]
          have hol : (enc vs1 (val tl)).length = o.length := by rw [← encL_form, hform, encL_length]
          rw [hcells, List.reverse_reverse] at hown2
          have hx2 : Ext b.M w w2 := hI.step.ext.trans hext2 fun q hq => .inr (by have := (hI.own.lt q hq).1; have := hI.wle; have := hI.mlt; omega)
          have hf2 : FStep noB wr w2 b1 b1 vs1 vs1 := FStep.same hext2 (hI.step.inv.lt b1.f (.inr (.inl rfl))) fun hq => (hI.free _ hq).1 (.inr (.inl rfl))
          refine ⟨vs1, b1, oa, oc, by rw [hol]; rfl, ?_, ?_, ?_, ?_, ?_, ?_⟩
          · rw [hol]
            exact own_lower hown2 (by have := hI.gle; have := hI.wle; have := hI.mlt; omega)
          · rw [hol]; have h1 := hI.len; have h2 := HLEN.out; rw [encL_length] at h2; omega
          · intro t ht
            rw [hform] at ht
            exact hI.emitted t ht
          · exact ⟨hI.step.inv.extF hext2 fun q hq _ => hI.free q hq, hI.step.pre, hx2, hI.step.p, hI.step.r1, hI.step.r2, hI.step.r3, hI.step.f⟩
          · exact hI.fstep.trans hf2 hI.step.ext.size fun q hq => hq.elim
          · intro q hq
            rw [hol] at hq
            exact (hI.free q hq).1
        · obtain ⟨p0, hp0⟩ : ∃ p0, nextAt xs carry p = some p0 := by
            unfold nextAt
            by_cases hc0 : carry = 0
            · cases xs with
              | nil => exact absurd ⟨rfl, hc0⟩ hend
              | cons y ys => exact ⟨y, by simp [hc0]⟩
            · exact ⟨p, by simp [hc0]⟩
          have hend2 : carry = 0 → 0 < N := fun h0 => by
            by_cases h : N = 0
            · exact absurd ⟨List.eq_nil_of_length_eq_zero (by omega), h0⟩ hend
            · omega
          clear hend hNc
          obtain ⟨pl, hpl⟩ : ∃ pl : Nat, pl = vs1.idxOf (p0 : Int) := ⟨_, rfl⟩
          have HPL := Sealed.mk hpl; clear hpl
          obtain ⟨hv, hhv⟩ : ∃ hv, hv = hereAt (cntV tl) xs carry p0 := ⟨_, rfl⟩
          obtain ⟨rs, hrs⟩ : ∃ rs, rs = restAt xs p0 := ⟨_, rfl⟩
          have hbh : -30000 ≤ hv ∧ hv ≤ 30000 := by
            have h1 := hI.l.weight
            have h2 := HLEN.out
            rw [encL_length] at h2
            rw [hhv]
            unfold hereAt
            split
            · rename_i hh
              cases xs with
              | nil => simp at hh
              | cons y ys => simp at hh; subst hh; simp only [wt] at h1; omega
            · omega
          have HHV := Sealed.mk hhv; clear hhv
          have HRS := Sealed.mk hrs; clear hrs
          have hcb : -30000 ≤ carry ∧ carry ≤ 30000 := by omega
          clear hbnd
          have HI := Sealed.mk hI; clear hI
          have HR := Sealed.mk her; clear her
          have HP0 := Sealed.mk hp0; clear hp0
          have HNN := Sealed.mk hN; clear hN
          have HE2 := Sealed.mk hend2; clear hend2
          go_upto_region 16 with fail
          go_cut [62] (fun s wx => s = .bool true ∧ wx = wr)
          case first =>
            by_cases hc0 : carry = 0
            · subst hc0
              have hx0 := HE2.out rfl
              go_wp2_with fail
              go_meet
              case rel => exact ⟨rfl, rfl⟩
            · have hc1 : (carry != 0) = true := by simp [hc0]
              by_cases hx0 : 0 < N
              · go_wp2_with fail
                go_meet
                case rel => exact ⟨rfl, rfl⟩
              · have hx1 : ¬ 0 < (N : Int) := by omega
                go_wp2_with fail
                go_meet
                case rel => exact ⟨rfl, rfl⟩
          case rest =>
            obtain ⟨rfl, rfl⟩ := hcut
            go_upto_if 64 with fail
            go_cut [13] (fun s wx => s = .int .i64 (pl : Int) ∧ wx = wc)
            case first =>
              by_cases hc0 : carry = 0
              · have hx0 := HE2.out hc0
                have hp1 := HP0.out
                have hxs : xs.head? = some p0 := by unfold nextAt at hp1; rwa [if_pos hc0] at hp1
                obtain ⟨g, off, rfl, hrd, hlt6, hnm⟩ := HR.out (by intro e; cases xs with | nil => simp at hxs | cons y ys => simp at e)
                have hcell : wc.cell? ⟨g, off, none⟩ = some (.int .i64 (pl : Int)) := by
                  rw [HPL.out]
                  cases xs with
                  | nil => simp at hxs
                  | cons y ys =>
                    simp at hxs
                    subst hxs
                    have h1 := hrd 0 _ (by simp [icells]; rfl)
                    rw [Nat.add_zero] at h1
                    rw [idxOf_prefix HI.out.step.pre (HES.out.2.2 _ (HI.out.l.sub _ (by simp)))]
                    exact h1
                subst hc0
                clear hp1 hxs hrd
                go_wp2_with fail
                go_meet
                case rel => exact ⟨rfl, rfl⟩
              · have hc1 : (carry == 0) = false := by simp [hc0]
                have hp1 := HP0.out
                unfold nextAt at hp1
                rw [if_neg hc0] at hp1
                obtain rfl := Option.some.inj hp1
                have hpv := (HI.out.pv hc0).2
                rw [← HPL.out] at hpv
                obtain rfl := hpv
                clear hp1
                go_wp2_with fail
                go_meet
                case rel => exact ⟨rfl, rfl⟩
            case rest =>
              obtain ⟨rfl, rfl⟩ := hcut
              go_upto_region 20 with fail
              go_cut [78] (fun s wx => s = .bool (decide (xs.head? = some p0)) ∧ wx = wc)
              case first =>
                by_cases hx0 : 0 < N
                · obtain ⟨y, ys, rfl⟩ : ∃ y ys, xs = y :: ys := by
                    cases xs with
                    | nil => have := HNN.out; simp at this; omega
                    | cons y ys => exact ⟨y, ys, rfl⟩
                  obtain ⟨g, off, rfl, hrd, hlt6, hnm⟩ := HR.out (by simp)
                  obtain ⟨A, hA⟩ : ∃ A : Nat, A = vs.idxOf (y : Int) := ⟨_, rfl⟩
                  have hcell : wc.cell? ⟨g, off, none⟩ = some (.int .i64 (A : Int)) := by
                    have h1 := hrd 0 (.int .i64 (A : Int)) (by simp [icells, hA])
                    rwa [Nat.add_zero] at h1
                  have hyv := HES.out.2.2 _ (HI.out.l.sub y (by simp))
                  have hyA : vs1.idxOf (y : Int) = A := by rw [idxOf_prefix HI.out.step.pre hyv, hA]
                  have hyv1 : (y : Int) ∈ vs1 := HI.out.step.pre.subset hyv
                  by_cases hy : y = p0
                  · subst hy
                    have hAp : A = pl := by rw [HPL.out, hyA]
                    subst hAp
                    clear hrd hA hyA
                    go_wp2_with fail
                    go_meet
                    case rel => exact ⟨by simp, rfl⟩
                  · have hAp : ((A : Int) == (pl : Int)) = false := by
                      rw [beq_eq_false_iff_ne]
                      intro e
                      have e1 : A = pl := by omega
                      rw [← hyA, HPL.out] at e1
                      have := idxOf_inj hyv1 e1
                      omega
                    clear hrd hA hyA
                    go_wp2_with fail
                    go_meet
                    case rel => exact ⟨by simp [hy], rfl⟩
                · obtain rfl : xs = [] := List.eq_nil_of_length_eq_zero (by have := HNN.out; omega)
                  go_wp2_with fail
                  go_meet
                  case rel => exact ⟨by simp, rfl⟩
              case rest =>
                obtain ⟨rfl, rfl⟩ := hcut
                go_upto_if 78 with fail
                go_cut [6, 14] (fun ev' s wx => s = .int .i64 hv ∧ Ints wc w1.heap.size b1 ev' (rs.map (fun e : Nat => vs.idxOf (e : Int))) ∧ wx = wc)
                case first =>
                  by_cases hh : xs.head? = some p0
                  · obtain ⟨ys, rfl⟩ : ∃ ys, xs = p0 :: ys := by
                      cases xs with
                      | nil => simp at hh
                      | cons y ys => simp at hh; subst hh; exact ⟨ys, rfl⟩
                    have e1 : hv = carry + cntV tl p0 := by rw [HHV.out]; simp [hereAt]
                    have e2 : rs = ys := by rw [HRS.out]; simp [restAt]
                    subst e2
                    have hyv := HES.out.2.2 _ (HI.out.l.sub p0 (by simp))
                    have hyA : vs.idxOf (p0 : Int) = pl := by rw [HPL.out, idxOf_prefix HI.out.step.pre hyv]
                    have lk : (Instr.lookup 104 (.map (some w.heap.size)) (.int .i64 (pl : Int)) false).run Try.prog wc = .ok (.int .i64 (hv - carry)) wc := by
                      have := run_lookup kk_int Try.underlying104 zero_int HI.out.cmap (pl : Int)
                      rw [← hyA, HCNT.out p0 hyv, hyA] at this
                      rw [e1, show carry + cntV tl p0 - carry = cntV tl p0 by omega]
                      exact this
                    obtain ⟨g, off, rfl, hrd, hlt6, hnm⟩ := HR.out (by simp)
                    have hN1 : 1 ≤ N := by have := HNN.out; simp at this; omega
                    have hadd : carry + (hv - carry) = hv := by omega
                    have hw1 : IntKind.i64.wrap hv = hv := by rw [IntKind.wrap_i64]; omega
                    have hw2 : wrap64 hv = hv := by unfold wrap64; omega
                    have HRD := Sealed.mk hrd; clear hrd e1 hyA
                    rw [decide_eq_true hh]
                    clear hh
                    have hlen : N - 1 = (rs.map (fun e : Nat => vs.idxOf (e : Int))).length := by have := HNN.out; simp at this ⊢; omega
                    have HLN := Sealed.mk hlen; clear hlen
                    go_wp2_with fail
                    · go_meet
                      case rel =>
                        have h1 : rs = [] := by have := HNN.out; exact List.eq_nil_of_length_eq_zero (by simp at this; omega)
                        exact ⟨rfl, ⟨_, _, by rw [← HLN.out], by rw [h1]; simp, fun hne => absurd (by rw [h1]; rfl) hne⟩, rfl⟩
                    · go_meet
                      case rel =>
                        refine ⟨rfl, ⟨_, _, by rw [← HLN.out], by rw [← HLN.out]; omega, fun hne => ⟨g, off + 1, rfl, fun j u hu => ?_, hlt6, hnm⟩⟩, rfl⟩
                        have := HRD.out (j + 1) u (by simpa [icells] using hu)
                        rwa [show off + 1 + j = off + (j + 1) by omega]
                  · have e1 : hv = carry := by rw [HHV.out]; simp [hereAt, hh]
                    have e2 : rs = xs := by rw [HRS.out]; simp [restAt, hh]
                    subst e1
                    subst e2
                    rw [decide_eq_false hh]
                    go_wp2_with fail
                    go_meet
                    case rel => exact ⟨rfl, ⟨ea, ecap, by rw [List.length_map, ← HNN.out], by rw [List.length_map, ← HNN.out]; exact hecap, HR.out⟩, rfl⟩
                case rest =>
                  obtain ⟨rfl, hints, rfl⟩ := hcut
                  obtain ⟨ra, rcap, rfl, hrcap, hrr⟩ := hints
                  rw [List.length_map] at hrcap ⊢
                  obtain ⟨M, hM⟩ : ∃ M, M = rs.length := ⟨_, rfl⟩
                  rw [← hM] at hrcap ⊢
                  have HMM := Sealed.mk hM; clear hM
                  have HRR := Sealed.mk hrr; clear hrr
                  by_cases h0 : hv = 0
                  · subst h0
                    have hstep := HI.out.l.step (by have h2 := HLEN.out; rw [encL_length] at h2; omega) HP0.out (k := 0) (by simp) (fun h => absurd rfl h)
                    rw [← HRS.out, mu_zero _ _ _ p0, ← HI.out.mu] at hstep
                    have hs := HI.out.s.skip HP0.out HHV.out.symm p0
                    rw [← HRS.out] at hs
                    have HST := Sealed.mk hstep; clear hstep
                    have HSK := Sealed.mk hs; clear hs
                    go_wp2_with fail
                    go_roundg (mu (cntV tl) rs 0 p0)
                    case measure => exact HST.out.2
                    case rel =>
                      have hI := HI.out
                      exact ⟨vs1, b1, rs, 0, p0, o, { mu := rfl, s := HSK.out, l := HST.out.1.zero p0, cv := rfl, pv := fun h => absurd rfl h, step := hI.step, emitted := hI.emitted, ev := ⟨ra, rcap, by rw [List.length_map, ← HMM.out], by rw [List.length_map, ← HMM.out]; exact hrcap, HRR.out⟩, cmap := hI.cmap, mfree := hI.mfree, mlt := hI.mlt, gle := hI.gle, wle := hI.wle, own := hI.own, free := hI.free, fstep := hI.fstep, len := by have := hI.len; have := HST.out.2; omega }⟩
                  · have h00 : (hv == 0) = false := by simp [h0]
                    go_upto_region 27 with fail
                    go_cut [98] (fun s wx => s = .bool (decide (0 < M ∨ hv.natAbs ≠ 1)) ∧ wx = wc)
                    case first =>
                      by_cases hx0 : 0 < M
                      · go_wp2_with fail
                        go_meet
                        case rel => exact ⟨by simp [hx0], rfl⟩
                      · have hx1 : ¬ 0 < (M : Int) := by omega
                        by_cases h1 : hv = 1
                        · have h11 : (hv != 1) = false := by simp [h1]
                          have H1 := Sealed.mk h1; clear h1
                          go_wp2_with fail
                          go_meet
                          case rel => exact ⟨by simp [hx0, H1.out], rfl⟩
                        · have h11 : (hv != 1) = true := by simp [h1]
                          by_cases h2 : hv = -1
                          · have h21 : (hv != -1) = false := by simp [h2]
                            have H2 := Sealed.mk h2; clear h2
                            go_wp2_with fail
                            go_meet
                            case rel => exact ⟨by simp [hx0, H2.out], rfl⟩
                          · have h21 : (hv != -1) = true := by simp [h2]
                            have h22 : hv.natAbs ≠ 1 := by omega
                            go_wp2_with fail
                            go_meet
                            case rel => exact ⟨by simp [h22], rfl⟩
                    case rest =>
                      obtain ⟨rfl, rfl⟩ := hcut
                      have hcm : SumAt tl p0 ∨ ¬ (0 < M ∨ hv.natAbs ≠ 1) := by
                        by_cases hq : 0 < M ∨ hv.natAbs ≠ 1
                        · refine .inl ⟨?_, ?_⟩
                          · obtain ⟨f, hf, j, hj, e⟩ := HI.out.l.at HP0.out
                            obtain ⟨t, ht, rfl⟩ := (HES.out.2.1 f).1 hf
                            exact ⟨t, ht, j, hj, e⟩
                          · by_cases hM0 : 0 < M
                            · obtain ⟨y, hy⟩ : ∃ y, y ∈ rs := by
                                cases hrs : rs with
                                | nil => have := HMM.out; rw [hrs] at this; simp at this; omega
                                | cons y ys => exact ⟨y, by simp⟩
                              have h1 := HI.out.s.rest_low HP0.out y (by rw [← HRS.out]; exact hy)
                              have h2 : y ∈ xs := by
                                have h3 := HRS.out
                                rw [h3] at hy
                                unfold restAt at hy
                                split at hy
                                · exact List.mem_of_mem_tail hy
                                · exact hy
                              obtain ⟨t, ht, rfl⟩ := (HES.out.2.1 y).1 (HI.out.l.sub y h2)
                              exact .inl ⟨t, ht, by omega⟩
                            · right
                              refine HI.out.s.big HP0.out ?_ ?_
                              · rw [← HRS.out]; exact List.eq_nil_of_length_eq_zero (by have := HMM.out; omega)
                              · rw [← HHV.out]; omega
                        · exact .inr hq
                      have HCM := Sealed.mk hcm; clear hcm
                      have hpm : (p0 : Int) ∈ vs1 := by
                        have h1 := HP0.out
                        unfold nextAt at h1
                        split at h1
                        · exact HI.out.step.pre.subset (HES.out.2.2 _ (HI.out.l.sub _ (List.mem_of_mem_head? h1)))
                        · rename_i hc0
                          obtain rfl := Option.some.inj h1
                          exact (HI.out.pv hc0).1
                      have HPM := Sealed.mk hpm; clear hpm
                      go_upto_if 98 with fail
                      go_cut [15, 16] (fun u ab wx => ∃ vs2 b2, ab = .int .i64 (aboveAt (cntV tl) rs (p0 + 1)) ∧ ((0 < M ∨ hv.natAbs ≠ 1) → ((p0 : Int) + 1 ∈ vs2 ∧ u = .int .i64 (vs2.idxOf ((p0 : Int) + 1) : Nat))) ∧ WStep U wc wx b1 b2 vs1 vs2 ∧ FStep noB wc wx b1 b2 vs1 vs2)
                      case first =>
                        by_cases hq : 0 < M ∨ hv.natAbs ≠ 1
                        · have hnx : Calls Try.prog 89 #[.pointer (some ⟨b.p, 0, none⟩), .int .i64 (pl : Int)] wc fun e w' => ∃ vs' b', e = .returned (.int .i64 (vs'.idxOf ((p0 : Int) + 1) : Nat)) ∧ (p0 : Int) + 1 ∈ vs' ∧ WStep U wc w' b1 b' vs1 vs' ∧ FStep noB wc w' b1 b' vs1 vs' := by
                            rcases HCM.out with h | h
                            · have := HN.out p0 h wc b1 vs1 HI.out.step.inv HPM.out
                              rw [HI.out.step.p, ← HPL.out] at this
                              exact this
                            · exact absurd hq h
                          have HNX := Sealed.mk hnx; clear hnx
                          rw [decide_eq_true hq]
                          have HQ := Sealed.mk hq; clear hq
                          go_upto_region 29 with (go_at_call 89; go_must (refine HNX.out.mono ?_; rintro e w2 ⟨vs2, b2, rfl, hm2, hst2, hfs2⟩))
                          obtain ⟨up, hup⟩ : ∃ up : Nat, up = vs2.idxOf ((p0 : Int) + 1) := ⟨_, rfl⟩
                          rw [← hup]
                          have HUP := Sealed.mk hup; clear hup
                          have HM2 := Sealed.mk (And.intro hm2 (And.intro hst2 hfs2)); clear hm2 hst2 hfs2
                          by_cases hx0 : 0 < M
                          · obtain ⟨y, ys, rfl⟩ : ∃ y ys, rs = y :: ys := by
                              cases rs with
                              | nil => have := HMM.out; simp at this; omega
                              | cons y ys => exact ⟨y, ys, rfl⟩
                            obtain ⟨g, off, rfl, hrd, hlt6, hnm⟩ := HRR.out (by simp)
                            obtain ⟨A, hA⟩ : ∃ A : Nat, A = vs.idxOf (y : Int) := ⟨_, rfl⟩
                            have hgle := HI.out.gle
                            have hcell : w2.cell? ⟨g, off, none⟩ = some (.int .i64 (A : Int)) := by
                              have h1 := hrd 0 (.int .i64 (A : Int)) (by simp [icells, hA])
                              rw [Nat.add_zero] at h1
                              rw [cell_same (HM2.out.2.1.ext.block g (by omega) hnm)]
                              exact h1
                            have hyx : y ∈ xs := by
                              have h3 := HRS.out
                              have hy : y ∈ restAt xs p0 := by rw [← h3]; simp
                              unfold restAt at hy
                              split at hy
                              · exact List.mem_of_mem_tail hy
                              · exact hy
                            have hyv := HES.out.2.2 _ (HI.out.l.sub y hyx)
                            have hyA : vs2.idxOf (y : Int) = A := by rw [idxOf_prefix (HI.out.step.pre.trans HM2.out.2.1.pre) hyv, hA]
                            have hyv1 : (y : Int) ∈ vs2 := (HI.out.step.pre.trans HM2.out.2.1.pre).subset hyv
                            by_cases hy : y = p0 + 1
                            · have hAp : A = up := by rw [HUP.out, ← hyA, hy]; rfl
                              subst hAp
                              have lk : (Instr.lookup 104 (.map (some w.heap.size)) (.int .i64 (A : Int)) false).run Try.prog w2 = .ok (.int .i64 (cntV tl y)) w2 := by
                                have := run_lookup kk_int Try.underlying104 zero_int (HI.out.cmap.same (HM2.out.2.1.ext.block _ HI.out.cmap.lt HI.out.mfree)) (A : Int)
                                rw [hA, HCNT.out y hyv, ← hA] at this
                                exact this
                              have HY := Sealed.mk hy; clear hy hrd hA hyA
                              go_wp2_with fail
                              go_meet
                              case rel => exact ⟨vs2, b2, by simp [aboveAt, HY.out], fun _ => ⟨HM2.out.1, by rw [HUP.out]⟩, HM2.out.2.1, HM2.out.2.2⟩
                            · have hAp : ((A : Int) == (up : Int)) = false := by
                                rw [beq_eq_false_iff_ne]
                                intro e
                                have e1 : A = up := by omega
                                rw [← hyA, HUP.out] at e1
                                have := idxOf_inj hyv1 e1
                                omega
                              have HY := Sealed.mk hy; clear hy hrd hA hyA
                              go_wp2_with fail
                              go_meet
                              case rel => exact ⟨vs2, b2, by simp [aboveAt, HY.out], fun _ => ⟨HM2.out.1, by rw [HUP.out]⟩, HM2.out.2.1, HM2.out.2.2⟩
                          · obtain rfl : rs = [] := List.eq_nil_of_length_eq_zero (by have := HMM.out; omega)
                            go_wp2_with fail
                            go_meet
                            case rel => exact ⟨vs2, b2, by simp [aboveAt], fun _ => ⟨HM2.out.1, by rw [HUP.out]⟩, HM2.out.2.1, HM2.out.2.2⟩
                        · rw [decide_eq_false hq]
                          have HQ := Sealed.mk hq; clear hq
                          obtain rfl : rs = [] := List.eq_nil_of_length_eq_zero (by have := HMM.out; have := HQ.out; omega)
                          go_wp2_with fail
                          go_meet
                          case rel => exact ⟨vs1, b1, by simp [aboveAt], fun h => absurd h HQ.out, WStep.refl HI.out.step.inv, FStep.refl⟩
                      case rest =>
                        obtain ⟨vs2, b2, rfl, hu, hst2, hfs2⟩ := hcut
                        obtain ⟨ab, hab⟩ : ∃ ab, ab = aboveAt (cntV tl) rs (p0 + 1) := ⟨_, rfl⟩
                        rw [← hab]
                        have hab2 : -30000 ≤ ab ∧ ab ≤ 30000 := by
                          have h1 := cntV_le tl (p0 + 1)
                          have h2 := HLEN.out
                          rw [encL_length] at h2
                          rw [hab]
                          unfold aboveAt
                          split <;> omega
                        have HAB := Sealed.mk hab; clear hab
                        have HU := Sealed.mk hu; clear hu
                        have HS2 := Sealed.mk (And.intro hst2 hfs2); clear hst2 hfs2
                        have hpl2 : vs2.idxOf (p0 : Int) = pl := by rw [idxOf_prefix HS2.out.1.pre HPM.out, HPL.out]
                        have hown2 : wc.ownsRow w1.heap.size 98 2 u11 o.length (tcells (encL vs2 o.reverse)) := by
                          rw [encL_prefix HS2.out.1.pre fun t ht => HI.out.emitted t (List.mem_reverse.1 ht)]
                          exact own_ext HI.out.own HS2.out.1.ext fun q hq => (HI.out.free q hq).1
                        have holen : o.length ≤ 90001 := by have h1 := HI.out.len; have h2 := HLEN.out; rw [encL_length] at h2; omega
                        have hwsz : w1.heap.size ≤ wc.heap.size := Nat.le_trans HI.out.gle HS2.out.1.ext.size
                        have hfree2 : ∀ q, u11.ownBlock = some q → WFree wc b2 vs2 q := fun q hq => HS2.out.2 q (HI.out.own.lt q hq).2 (fun h => h) (HI.out.free q hq)
                        have hpre : (∀ q, u11.ownBlock = some q → WFree wc b2 vs2 q) ∧ (¬ u11.ownBlock = some b2.f) ∧ ∀ q, u11.ownBlock = some q → w1.heap.size ≤ q := ⟨hfree2, fun e => (hfree2 _ e).1 (.inr (.inl rfl)), fun q hq => (HI.out.own.lt q hq).1⟩
                        have HPRE := Sealed.mk hpre; clear hpre hfree2
                        have HO2 := Sealed.mk hown2; clear hown2
                        have HPL2 := Sealed.mk hpl2; clear hpl2
                        go_upto_if 117 with fail
                        go_cut [11, 14] (fun out' s wx => ∃ L : Int, s = .int .i64 (hv - L) ∧ ∃ o' : List T, ((L = 0 ∧ hv % 2 = 0 ∧ o' = o) ∨ ((L = 1 ∨ L = -1) ∧ hv % 2 ≠ 0 ∧ (hv + 2 * ab - L) % 4 = 0 ∧ o' = (decide (L < 0), p0) :: o)) ∧
                          wx.ownsRow w1.heap.size 98 2 out' o'.length (tcells (encL vs2 o'.reverse)) ∧ Ext (fun q => u11.ownBlock = some q) wc wx ∧ (out'.ownBlock = u11.ownBlock ∨ ∃ q, out'.ownBlock = some q ∧ wc.heap.size ≤ q))
                        case first =>
                          by_cases hpar : hv % 2 = 0
                          · have ht : (hv.tmod 2 != 0) = false := by
                              have : hv.tmod 2 = 0 := tmod_two.2 hpar
                              simp [this]
                            have HPAR := Sealed.mk hpar; clear hpar
                            go_wp2_with fail
                            go_meet
                            case rel => exact ⟨0, by simp, o, .inl ⟨rfl, HPAR.out, rfl⟩, HO2.out, Ext.refl _ _, .inl rfl⟩
                          · have ht : (hv.tmod 2 != 0) = true := by
                              have : hv.tmod 2 ≠ 0 := fun e => hpar (tmod_two.1 e)
                              simp [this]
                            have HPAR := Sealed.mk hpar; clear hpar
                            have q1 : IntKind.i64.wrap (2 * ab) = 2 * ab := by rw [IntKind.wrap_i64]; omega
                            have q2 : IntKind.i64.wrap (hv + 2 * ab) = hv + 2 * ab := by rw [IntKind.wrap_i64]; omega
                            have q3 : wrap64 (2 * ab) = 2 * ab := by unfold wrap64; omega
                            have q4 : wrap64 (hv + 2 * ab) = hv + 2 * ab := by unfold wrap64; omega
                            have q5 := sign_test (hv + 2 * ab)
                            by_cases h3 : (hv + 2 * ab) % 4 = 3
                            · rw [decide_eq_true h3] at q5
                              have H3 := Sealed.mk h3; clear h3
                              go_wp2_with (at_builtin; go_must (refine ap_lit (m := 1) el_term (.tmp 126) (.tmp 131) rfl rfl rfl HO2.out rfl (by simp) rfl ?h1 ?h2 ?h3 ?h4))
                              case h1 => simp [Value.oneCell']
                              case h2 => omega
                              case h3 => exact hwsz
                              case h4 =>
                                intro v' w' hown' hgrow hnew
                                have HOW := Sealed.mk hown'; clear hown'
                                have HGR := Sealed.mk hgrow; clear hgrow
                                have HNW := Sealed.mk hnew; clear hnew
                                have q7 : IntKind.i64.wrap (hv - -1) = hv - -1 := by rw [IntKind.wrap_i64]; omega
                                have q8 : wrap64 (hv - -1) = hv - -1 := by unfold wrap64; omega
                                have q9 : wrap64 (hv + 1) = hv - -1 := by unfold wrap64; omega
                                go_wp2_with fail
                                go_meet
                                case rel =>
                                  refine ⟨-1, ?_, (decide ((-1 : Int) < 0), p0) :: o, .inr ⟨by simp, HPAR.out, by have := H3.out; have := HPAR.out; omega, rfl⟩, ?_, ⟨HGR.out.os, HGR.out.tape, HGR.out.output, HGR.out.size, fun q hq hn => HGR.out.block q hq fun e => hn e.symm⟩, HNW.out⟩
                                  · first | rfl | (congr 1; omega)
                                  · have := HOW.out
                                    simpa [encL, tcells_append, tcells, HPL2.out] using this
                            · rw [decide_eq_false h3] at q5
                              have H3 := Sealed.mk h3; clear h3
                              go_wp2_with (at_builtin; go_must (refine ap_lit (m := 1) el_term (.tmp 126) (.tmp 131) rfl rfl rfl HO2.out rfl (by simp) rfl ?h1 ?h2 ?h3 ?h4))
                              case h1 => simp [Value.oneCell']
                              case h2 => omega
                              case h3 => exact hwsz
                              case h4 =>
                                intro v' w' hown' hgrow hnew
                                have HOW := Sealed.mk hown'; clear hown'
                                have HGR := Sealed.mk hgrow; clear hgrow
                                have HNW := Sealed.mk hnew; clear hnew
                                have q7 : IntKind.i64.wrap (hv - 1) = hv - 1 := by rw [IntKind.wrap_i64]; omega
                                have q8 : wrap64 (hv - 1) = hv - 1 := by unfold wrap64; omega
                                have q9 : wrap64 (hv + -1) = hv - 1 := by unfold wrap64; omega
                                go_wp2_with fail
                                go_meet
                                case rel =>
                                  refine ⟨1, ?_, (decide ((1 : Int) < 0), p0) :: o, .inr ⟨by simp, HPAR.out, by have := H3.out; have := HPAR.out; omega, rfl⟩, ?_, ⟨HGR.out.os, HGR.out.tape, HGR.out.output, HGR.out.size, fun q hq hn => HGR.out.block q hq fun e => hn e.symm⟩, HNW.out⟩
                                  · first | rfl | (congr 1; omega)
                                  · have := HOW.out
                                    simpa [encL, tcells_append, tcells, HPL2.out] using this
                        case rest =>
                          obtain ⟨L, rfl, o', ho', hown', hext', hnew'⟩ := hcut
                          have hd : (hv - L) % 2 = 0 := by
                            rcases ho' with ⟨h1, h2, _⟩ | ⟨h1, h2, _⟩ <;> omega
                          have hL : -1 ≤ L ∧ L ≤ 1 := by
                            rcases ho' with ⟨h1, h2, _⟩ | ⟨h1, h2, _⟩ <;> omega
                          have q6 := tdiv_two hd
                          have q7 : wrap64 ((hv - L) / 2) = (hv - L) / 2 := by unfold wrap64; omega
                          have HOO := Sealed.mk (And.intro ho' (And.intro hown' (And.intro hext' hnew'))); clear ho' hown' hext' hnew' hd
                          go_wp2_with fail
                          have hn3k : tl.length ≤ 30000 := by have h2 := HLEN.out; rw [encL_length] at h2; omega
                          obtain ⟨ho', hown', hext', hnew'⟩ := HOO.out
                          have hI := HI.out
                          have hst2 := HS2.out.1
                          have hfs2 := HS2.out.2
                          have hz : (hv - L) / 2 ≠ 0 → hv.natAbs = 1 → rs.head? = some (p0 + 1) := by
                            intro hk0 h1
                            rcases ho' with ⟨e1, e2, _⟩ | ⟨e1, e2, e3, _⟩
                            · omega
                            · have hab0 : ab ≠ 0 := by omega
                              have h5 := HAB.out
                              unfold aboveAt at h5
                              split at h5
                              · assumption
                              · exact absurd h5 hab0
                          have hstp := hI.l.step hn3k HP0.out (k := (hv - L) / 2) (by rw [← HHV.out]; rcases ho' with ⟨e1, e2, _⟩ | ⟨e1, e2, e3, _⟩ <;> omega) (by rw [← HHV.out, ← HRS.out]; exact hz)
                          rw [← HRS.out, ← hI.mu] at hstp
                          have hSn : SInv (val tl) (cntV tl) rs ((hv - L) / 2) (p0 + 1) o' := by
                            rcases ho' with ⟨rfl, e2, rfl⟩ | ⟨e1, e2, e3, rfl⟩
                            · have := hI.s.even HP0.out (by rw [← HHV.out]; exact h0) (by rw [← HHV.out]; exact e2)
                              rw [← HHV.out, ← HRS.out] at this
                              simpa using this
                            · have := hI.s.odd HP0.out L e1 (by rw [← HHV.out, ← HRS.out, ← HAB.out]; exact e3) (by rw [← HHV.out]; exact e2)
                              rw [← HHV.out, ← HRS.out] at this
                              exact this
                          have hol' : o'.length ≤ o.length + 1 := by
                            rcases ho' with ⟨_, _, rfl⟩ | ⟨_, _, _, rfl⟩ <;> simp
                          have hem : ∀ t ∈ o', (t.2 : Int) ∈ vs2 := by
                            intro t ht
                            rcases ho' with ⟨_, _, rfl⟩ | ⟨_, _, _, rfl⟩
                            · exact hst2.pre.subset (hI.emitted t ht)
                            · rcases List.mem_cons.1 ht with rfl | ht
                              · exact hst2.pre.subset HPM.out
                              · exact hst2.pre.subset (hI.emitted t ht)
                          obtain ⟨hfree2, hfn, hlow⟩ := HPRE.out
                          have hf2 := hst2.inv.lt b2.f (.inr (.inl rfl))
                          have hgw := hI.gle
                          have hws2 := hst2.ext.size
                          have hst := hI.step.trans hst2
                          have hmove : ∀ q, q < w1.heap.size → ¬ b1.M q → ¬ b2.M q := fun q hq hn hM => by
                            rcases hst2.news q hM with h | h
                            · exact hn h
                            · have := hI.gle; omega
                          go_roundg (mu (cntV tl) rs ((hv - L) / 2) (p0 + 1))
                          case measure => exact hstp.2
                          case rel =>
                            refine ⟨vs2, b2, rs, (hv - L) / 2, p0 + 1, o', ?_⟩
                            exact { mu := rfl, s := hSn, l := hstp.1, cv := rfl
                                    pv := fun hk0 => by
                                      have h1 : 0 < M ∨ hv.natAbs ≠ 1 := by
                                        by_cases hA : hv.natAbs = 1
                                        · left
                                          have := hz hk0 hA
                                          rw [HMM.out]
                                          cases hrs : rs with
                                          | nil => rw [hrs] at this; simp at this
                                          | cons y ys => simp
                                        · exact .inr hA
                                      have := HU.out h1
                                      push_cast
                                      exact this
                                    step := ⟨hst2.inv.extF hext' fun q hq _ => hfree2 q hq, hst.pre, hst.ext.trans hext' fun q hq => .inr (by have := hlow q hq; have := hI.wle; have := hI.mlt; omega), hst.p, hst.r1, hst.r2, hst.r3, hst.f⟩
                                    emitted := hem
                                    ev := ⟨ra, rcap, by rw [List.length_map, ← HMM.out], by rw [List.length_map, ← HMM.out]; exact hrcap, fun hne => by
                                      obtain ⟨g, off, e1, rd, l6, nm⟩ := HRR.out hne
                                      exact ⟨g, off, e1, rd.same (heap_chain hst2.ext hext' l6 hI.gle nm hlow), l6, hmove g l6 nm⟩⟩
                                    cmap := hI.cmap.same (heap_chain hst2.ext hext' hI.mlt hI.gle hI.mfree hlow)
                                    mfree := hmove _ hI.mlt hI.mfree
                                    mlt := hI.mlt
                                    gle := Nat.le_trans hwsz hext'.size
                                    wle := hI.wle
                                    own := hown'
                                    free := fun q hq => by
                                      rcases hnew' with e | ⟨q', e, h⟩
                                      · exact (hfree2 q (e ▸ hq)).same hext' hf2 hfn
                                      · rw [e] at hq
                                        obtain rfl := Option.some.inj hq
                                        exact (hst2.inv.fresh h).same hext' hf2 hfn
                                    fstep := (hI.fstep.trans hfs2 hI.step.ext.size fun q hq => hq.elim).trans (Y := noB) (FStep.same hext' hf2 hfn) (Nat.le_trans hI.step.ext.size hst2.ext.size) fun q hq => hq.elim
                                    len := by have := hI.len; have := hstp.2; omega }
end Go.Proofs.Ytgchfbfgjanaiaa
