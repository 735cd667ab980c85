/- The document's counters (wainscotref12): the block, what is asked. Condition: the path reads. -/
import Derived.Test.YtlndpljhcempoaaChgK
import Derived.Deep.DeepCutAuto
namespace Go.Proofs.Ytlndpljhcempoaa
open Go.RowKit

/-- The document's counters: the block r holds what is charged (U), the limits (M), each behind a place for nobody. -/
structure RchIs (w : World) (r : Nat) (U M : List Int) : Prop where
  hd : Row w r 143 ((.int .i64 0 :: U.map (.int .i64)) ++ (.int .i64 9007199254740991 :: M.map (.int .i64)))
  lu : U.length = 16
  lm : M.length = 16
  fu : ∀ x ∈ U, 0 ≤ x ∧ x ≤ 9007199254740991
  fm : ∀ x ∈ M, 0 ≤ x ∧ x ≤ 9007199254740991

theorem RchIs.keeps {w w' : World} {b : Nat} {U M : List Int} {S : List Nat} (h : RchIs w b U M) (hk : Keeps S w w') (h1 : b ∉ S) : RchIs w' b U M := ⟨hk.row h.hd h1, h.lu, h.lm, h.fu, h.fm⟩

theorem RchIs.cu {w : World} {b : Nat} {U M : List Int} (h : RchIs w b U M) {k : Nat} (hk : k < 16) : w.cell? ⟨b, k + 1, none⟩ = some (.int .i64 (U.getD k 0)) := by
  refine h.hd.cell ?_
  have hu := h.lu
  rw [List.getElem?_append_left (by simp [hu]; omega), List.getElem?_cons_succ, List.getElem?_map, List.getD_eq_getElem?_getD, List.getElem?_eq_getElem (by omega)]
  rfl

theorem RchIs.cm {w : World} {b : Nat} {U M : List Int} (h : RchIs w b U M) {k : Nat} (hk : k < 16) : w.cell? ⟨b, 17 + (k + 1), none⟩ = some (.int .i64 (M.getD k 0)) := by
  refine h.hd.cell ?_
  have hu := h.lu
  have hm := h.lm
  rw [List.getElem?_append_right (by simp [hu]), List.length_cons, List.length_map, hu, show 17 + (k + 1) - (16 + 1) = k + 1 from by omega, List.getElem?_cons_succ, List.getElem?_map, List.getD_eq_getElem?_getD, List.getElem?_eq_getElem (by omega)]
  rfl

theorem RchIs.bu {w : World} {b : Nat} {U M : List Int} (h : RchIs w b U M) {k : Nat} (hk : k < 16) : 0 ≤ U.getD k 0 ∧ U.getD k 0 ≤ 9007199254740991 := h.fu _ (getD_mem0 U k (by rw [h.lu]; exact hk))
theorem RchIs.bm {w : World} {b : Nat} {U M : List Int} (h : RchIs w b U M) {k : Nat} (hk : k < 16) : 0 ≤ M.getD k 0 ∧ M.getD k 0 ≤ 9007199254740991 := h.fm _ (getD_mem0 M k (by rw [h.lm]; exact hk))

theorem RchIs.setU {w : World} {b : Nat} {U M : List Int} (h : RchIs w b U M) (k : Nat) {x : Int} (hk : k < 16) (hx : 0 ≤ x ∧ x ≤ 9007199254740991) : RchIs (w.setCell ⟨b, k + 1, none⟩ (.int .i64 x)) b (U.set k x) M := by
  refine ⟨?_, by simpa using h.lu, h.lm, fun y hy => ?_, h.fm⟩
  · have := h.hd.set (k + 1) (.int .i64 x)
    rw [List.set_append_left _ _ (by simp [h.lu]; omega), List.set_cons_succ, ← List.map_set] at this
    exact this
  · rcases List.mem_or_eq_of_mem_set hy with h' | rfl
    · exact h.fu y h'
    · exact hx

theorem RchIs.setM {w : World} {b : Nat} {U M : List Int} (h : RchIs w b U M) (k : Nat) {x : Int} (hx : 0 ≤ x ∧ x ≤ 9007199254740991) : RchIs (w.setCell ⟨b, 17 + (k + 1), none⟩ (.int .i64 x)) b U (M.set k x) := by
  refine ⟨?_, h.lu, by simpa using h.lm, h.fu, fun y hy => ?_⟩
  · have := h.hd.set (17 + (k + 1)) (.int .i64 x)
    rw [List.set_append_right _ _ (by simp [h.lu]), List.length_cons, List.length_map, h.lu, show 17 + (k + 1) - (16 + 1) = k + 1 from by omega, List.set_cons_succ, ← List.map_set] at this
    exact this
  · rcases List.mem_or_eq_of_mem_set hy with h' | rfl
    · exact h.fm y h'
    · exact hx

set_option maxRecDepth 100000 in
set_option maxHeartbeats 400000 in
theorem rgroup_any (w : World) (g : Int) : Calls Try.prog 111 #[.int .i64 g] w fun e w' => e = .returned (.bool (okG g)) ∧ w = w' := by
  refine calls_hide fun R HR => ?_
  by_cases h1 : g < 1
  · have e : okG g = false := by simp [okG]; omega
    rw [e] at HR
    clear e
    go_enter Try.func111, Try.ntmps111
    go_wp2
    try go_ret
    exact HR.out _ _ ⟨rfl, rfl⟩
  · by_cases h2 : 16 < g
    · have e : okG g = false := by simp [okG]; omega
      rw [e] at HR
      clear e
      go_enter Try.func111, Try.ntmps111
      go_wp2
      try go_ret
      exact HR.out _ _ ⟨by rw [decide_eq_false (by omega)], rfl⟩
    · have e : okG g = true := by simp [okG]; omega
      rw [e] at HR
      clear e
      go_enter Try.func111, Try.ntmps111
      go_wp2
      try go_ret
      exact HR.out _ _ ⟨rfl, rfl⟩

theorem mem_take_lt (zs : List Int) (i k : Nat) (hk : k < i) (hi : i ≤ zs.length) (x : Int) (b : Bool) : (b || decide (x ∈ zs.take k) || (zs.getD k 0 == x)) = (b || decide (x ∈ zs.take (k + 1))) := by
  have h := mem_take_succ zs k (by omega) x
  by_cases h1 : x ∈ zs.take k
  · simp [h1, h.2 (.inl h1)]
  · by_cases h2 : x = zs.getD k 0
    · subst h2
      have h3 := h.2 (.inr rfl)
      simp only [List.getD_eq_getElem?_getD] at h3 ⊢
      simp [h3]
    · have h3 : ¬ x ∈ zs.take (k + 1) := fun h' => (h.1 h').elim h1 h2
      have h4 : (zs.getD k 0 == x) = false := beq_eq_false_iff_ne.2 (fun e => h2 e.symm)
      rw [h4]
      simp [h1, h3]

set_option maxRecDepth 100000 in
set_option maxHeartbeats 1600000 in
theorem rasked_any (w : World) (c : Nat) (a : Option Addr) (zs : List Int) (cap : Nat) (n : Int) (hz : IntsAt w c a zs) :
    Calls Try.prog 114 #[.slice a zs.length cap, .int .i64 n] w fun e w' => e = .returned (.int .i64 (askE zs n)) ∧ Keeps [] w w' := by
  refine calls_hide fun R HR => ?_
  have hlen := hz.1
  have HZ := Lib.hid hz
  clear hz
  go_enter Try.func114, Try.ntmps114
  go_wp2_with fail
  go_loopw [5] (fun i wr => ∃ j : Nat, j ≤ zs.length ∧ i = .int .i64 j ∧ (∀ k, k < j → 1 ≤ zs.getD k 0 ∧ zs.getD k 0 ≤ 16) ∧ w = wr) (fun i _ => zs.length - (intOf i).toNat)
  case atStart => exact ⟨0, by omega, rfl, fun k hk => by omega, rfl⟩
  case round =>
    obtain ⟨j, hj, rfl, hin, rfl⟩ := hrel
    have HI := Lib.hid hin
    clear hin
    by_cases hlt : j < zs.length
    · obtain ⟨bp, off, ha, hb, hne, hc⟩ := HZ.out.at hlt
      subst ha
      have c0 := hc j hlt
      have HG := Lib.hid (ask_group zs n j hlt)
      have HN := Lib.hid (fun (x : 1 ≤ zs.getD j 0 ∧ zs.getD j 0 ≤ 16) k (hk : k < j + 1) => (if e : k = j then e ▸ x else HI.out k (by omega) : 1 ≤ zs.getD k 0 ∧ zs.getD k 0 ≤ 16))
      clear hc
      generalize zs.getD j 0 = g at *
      by_cases hg : g < 1 ∨ 16 < g
      · have e := HG.out hg
        have eg : okG g = false := by simp [okG]; omega
        have EG := Lib.hid eg
        rw [e] at HR
        clear e eg
        go_wp2_with fail
        refine (rgroup_any w g).mono ?_
        rintro e w' ⟨rfl, rfl⟩
        rw [EG.out]
        go_wp2
        try go_ret
        exact HR.out _ _ ⟨rfl, Keeps.refl _ _⟩
      · have hg' : 1 ≤ g ∧ g ≤ 16 := by omega
        have HN2 := Lib.hid (HN.out hg')
        have eg : okG g = true := by simp [okG]; omega
        have EG := Lib.hid eg
        clear hg HN HG eg
        go_wp2_with fail
        refine (rgroup_any w g).mono ?_
        rintro e w' ⟨rfl, rfl⟩
        rw [EG.out]
        go_wp2
        go_roundw
        case rel => exact ⟨j + 1, by omega, by go_num, HN2.out, by first | rfl | trivial⟩
        case measure => simp [intOf]; omega
    · obtain rfl : j = zs.length := by omega
      have HA := Lib.hid (all_in zs HI.out)
      clear hlt hj
      obtain ⟨b0, hb0⟩ : ∃ b0 : Bool, b0 = decide (zs.length = 0 ∨ 8 < zs.length ∨ n < 0 ∨ 9007199254740991 < n) := ⟨_, rfl⟩
      have HB0 := Lib.hid hb0
      go_upto_region 6 with fail
      go_cut [6] (fun v wx => v = .bool b0 ∧ w = wx)
      case first =>
        by_cases h0 : zs.length = 0
        · have : b0 = true := by rw [hb0]; simp [h0]
          have E0 := Lib.hid this
          clear hb0 HB0 this
          go_wp2
          go_meet
          exact ⟨by rw [E0.out], rfl⟩
        · have h0' : 1 ≤ zs.length := by omega
          by_cases h8 : 8 < zs.length
          · have : b0 = true := by rw [hb0]; simp [h8]
            have E0 := Lib.hid this
            clear hb0 HB0 this h0
            go_wp2
            go_meet
            exact ⟨by rw [E0.out], rfl⟩
          · by_cases hn : n < 0
            · have : b0 = true := by rw [hb0]; simp [hn]
              have E0 := Lib.hid this
              clear hb0 HB0 this h0
              go_wp2
              go_meet
              exact ⟨by rw [E0.out], rfl⟩
            · by_cases hm : 9007199254740991 < n
              · have : b0 = true := by rw [hb0]; simp [hm]
                have E0 := Lib.hid this
                clear hb0 HB0 this h0
                go_wp2
                go_meet
                exact ⟨by rw [E0.out], rfl⟩
              · have : b0 = false := by rw [hb0]; exact decide_eq_false (by omega)
                have E0 := Lib.hid this
                clear hb0 HB0 this h0
                go_wp2
                go_meet
                exact ⟨by rw [E0.out, decide_eq_false (show ¬ ((zs.length : Int) < 1) by omega), decide_eq_false (show ¬ ((8 : Int) < zs.length) by omega)]; rfl, rfl⟩
      case rest =>
        obtain ⟨rfl, rfl⟩ := hcut
        clear hb0
        go_wp2_with fail
        go_loopw [6, 7] (fun v i wr => ∃ j q : Nat, j ≤ zs.length ∧ i = .int .i64 j ∧ v = .bool (b0 || dupTo zs j) ∧ wr = w.drewN q) (fun _ i _ => zs.length - (intOf i).toNat)
        case atStart => exact ⟨0, 0, by omega, rfl, by simp [dupTo], rfl⟩
        case round =>
          obtain ⟨j, q, hj, rfl, rfl, rfl⟩ := hrel
          by_cases hlt : j < zs.length
          · have HD := Lib.hid (show (b0 || dupTo zs j || decide (zs.getD j 0 ∈ zs.take j)) = (b0 || dupTo zs (j + 1)) from by simp only [dupTo, Bool.or_assoc])
            go_wp2_with fail
            try rw [decide_eq_true (show (j : Int) < (zs.length : Int) by omega)]
            go_loopw [6, 8] (fun v i wr => ∃ k q : Nat, k ≤ j ∧ i = .int .i64 k ∧ v = .bool (b0 || dupTo zs j || decide (zs.getD j 0 ∈ zs.take k)) ∧ wr = w.drewN q) (fun _ i _ => j - (intOf i).toNat)
            case atStart => exact ⟨0, q, by omega, rfl, by simp, rfl⟩
            case round =>
              obtain ⟨k, q, hk, rfl, rfl, rfl⟩ := hrel
              by_cases hkl : k < j
              · obtain ⟨bp, off, ha, hb, hne, hc⟩ := HZ.out.at hlt
                subst ha
                have c0 := hc j hlt
                have c1 := hc k (by omega)
                have HS := Lib.hid (mem_take_lt zs j k hkl hj (zs.getD j 0) (b0 || dupTo zs j))
                have hi1 : 0 ≤ (j : Int) ∧ (j : Int) < (zs.length : Int) := by omega
                have hi2 : 0 ≤ (k : Int) ∧ (k : Int) < (zs.length : Int) := by omega
                clear hc
                cases hbb : (b0 || dupTo zs j || decide (zs.getD j 0 ∈ zs.take k)) with
                | true =>
                  rw [hbb] at HS
                  clear hbb
                  go_wp2
                  go_quiet (fail)
                  go_wp2
                  go_roundw
                  case rel => exact ⟨k + 1, q + nq, by omega, by go_num, by rw [← HS.out]; rfl, by simp⟩
                  case measure => simp [intOf]; omega
                | false =>
                  rw [hbb] at HS
                  clear hbb
                  generalize zs.getD k 0 = zk at *
                  generalize zs.getD j 0 = zj at *
                  go_wp2
                  go_quiet (fail)
                  go_wp2
                  go_roundw
                  case rel => exact ⟨k + 1, q + nq, by omega, by go_num, by rw [← HS.out]; rfl, by simp⟩
                  case measure => simp [intOf]; omega
              · obtain rfl : k = j := by omega
                rw [HD.out]
                clear hkl hk
                go_wp2
                go_roundw
                case rel => exact ⟨k + 1, q, by omega, by go_num, rfl, rfl⟩
                case measure => simp [intOf]; omega
          · obtain rfl : j = zs.length := by omega
            cases hbb : (b0 || dupTo zs zs.length) with
            | true =>
              have e : askE zs n = 2 := by
                refine ask_arg zs n HA.out ?_
                rw [HB0.out] at hbb
                simp only [Bool.or_eq_true, decide_eq_true_eq] at hbb
                rcases hbb with h | h
                · exact .inr h
                · exact .inl h
              rw [e] at HR
              clear hbb e hlt hj
              go_wp2
              try go_ret
              exact HR.out _ _ ⟨rfl, (Keeps.refl _ _).drewN _⟩
            | false =>
              have e : askE zs n = 0 := by
                refine ask_ok zs n HA.out (fun hc => ?_)
                rw [HB0.out] at hbb
                simp only [Bool.or_eq_false_iff, decide_eq_false_iff_not] at hbb
                rcases hc with hc | hc
                · rw [hbb.2] at hc; cases hc
                · exact hbb.1 hc
              rw [e] at HR
              clear hbb e hlt hj
              go_wp2
              try go_ret
              exact HR.out _ _ ⟨rfl, (Keeps.refl _ _).drewN _⟩

end Go.Proofs.Ytlndpljhcempoaa
