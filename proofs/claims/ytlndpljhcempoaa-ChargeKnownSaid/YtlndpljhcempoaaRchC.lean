/- The document's counters (wainscotref12): Try, Back. Condition: the block reads so; the path lies elsewhere. -/
import Derived.Test.YtlndpljhcempoaaRchB
namespace Go.Proofs.Ytlndpljhcempoaa
open Go.RowKit

theorem tryI_at {U M zs : List Int} {n : Int} (hU : U.length = 16) (ha : askE zs n = 0) {i k : Nat} (hi : i < zs.length) (hk : zs.getD i 0 = (k : Int) + 1) :
    (M.getD k 0 < U.getD k 0 + n → upE (chgTo U zs n i) M ((k : Int) + 1) n ≠ 0) ∧ (U.getD k 0 + n ≤ M.getD k 0 → upE (chgTo U zs n i) M ((k : Int) + 1) n = 0) := by
  obtain ⟨hz, hd, h0, h8, hn0, hn1⟩ := ask_zero ha
  have h1 := hz i hi
  have ha1 : askE [(k : Int) + 1] n = 0 := by rw [ask_one, if_neg (by omega), if_neg (by omega)]
  have hg := chgTo_get U zs n hU hz hd k i (by omega)
  have hno := dupTo_not zs zs.length hd i hi
  rw [hk] at hno
  rw [if_neg hno, Int.add_zero] at hg
  refine ⟨fun h => ?_, fun h => ?_⟩
  · rw [(upE_no (U := chgTo U zs n i) (M := M) ha1 (by rw [hg]; omega)).1]; decide
  · exact (upE_ok (U := chgTo U zs n i) (M := M) ha1 (by rw [hg]; omega)).1

set_option maxRecDepth 100000 in
set_option maxHeartbeats 1600000 in
theorem rtry_any (w : World) (b : Nat) (U M : List Int) (h : RchIs w b U M) (a : Option Addr) (zs : List Int) (cap : Nat) (n : Int) (hz : IntsAt w b a zs) :
    Calls Try.prog 108 #[.pointer (some ⟨b, 0, none⟩), .slice a zs.length cap, .int .i64 n] w fun e w' => e = .returned (.tuple #[.int .i64 (tryR U M zs n).1, .int .i64 (tryR U M zs n).2]) ∧ RchIs w' b (tryU U M zs n) M ∧ Keeps [b] w w' := by
  refine calls_hide fun R HR => ?_
  have hlen := hz.1
  have H0 := Lib.hid (And.intro h hz)
  clear h hz
  go_enter Try.func108, Try.ntmps108
  go_wp2_with fail
  refine (rasked_any w b a zs cap n H0.out.2).mono ?_
  rintro e w1 ⟨rfl, hk1⟩
  have H1 := Lib.hid (And.intro (H0.out.1.keeps hk1 (by simp)) (And.intro (H0.out.2.keeps hk1 (by simp)) hk1))
  clear hk1
  by_cases he : askE zs n = 0
  · rw [he]
    obtain ⟨hin, hd, hl0, hl8, hn0, hn1⟩ := ask_zero he
    have HIN := Lib.hid (And.intro hin (And.intro hd he))
    clear hin hd
    go_wp2_with fail
    go_loopw [9] (fun i wr => ∃ j q : Nat, j ≤ zs.length ∧ i = .int .i64 j ∧ tryI U M zs n j = none ∧ wr = w1.drewN q) (fun i _ => zs.length - (intOf i).toNat)
    case atStart => exact ⟨0, 0, by omega, rfl, rfl, rfl⟩
    case round =>
      obtain ⟨j, q, hj, rfl, htr, rfl⟩ := hrel
      by_cases hlt : j < zs.length
      · obtain ⟨bp, off, ha, hb, hne, hc⟩ := H1.out.2.1.at hlt
        subst ha
        have d0 := hc j hlt
        have hg := HIN.out.1 j hlt
        obtain ⟨k, hk, hk16⟩ : ∃ k : Nat, zs.getD j 0 = (k : Int) + 1 ∧ k < 16 := ⟨(zs.getD j 0 - 1).toNat, by omega, by omega⟩
        have htj : tryI U M zs n (j + 1) = if upE (chgTo U zs n j) M ((k : Int) + 1) n ≠ 0 then some ((k : Int) + 1) else none := by simp only [tryI]; rw [htr, hk]
        have hat := tryI_at (M := M) H1.out.1.lu HIN.out.2.2 hlt hk
        have d1 := H1.out.1.cu hk16
        have d2 := H1.out.1.cm hk16
        have b1 := H1.out.1.bu hk16
        have b2 := H1.out.1.bm hk16
        have hi : 0 ≤ (k : Int) + 1 ∧ (k : Int) + 1 < 17 := by omega
        have hmt : ((k : Int) + 1).toNat = k + 1 := by omega
        have hix : 0 ≤ (j : Int) ∧ (j : Int) < (zs.length : Int) := by omega
        rw [hk] at d0
        have HT := Lib.hid (And.intro htj hat)
        clear hc hg hk htr htj hat
        by_cases hu : M.getD k 0 < U.getD k 0 + n
        · have htn := HT.out.1
          rw [if_pos (HT.out.2.1 hu)] at htn
          have htl := tryI_up U M zs n _ (j + 1) zs.length (by omega) htn
          have e1 : tryR U M zs n = ((k : Int) + 1, 120) := by unfold tryR; rw [if_neg (by rw [he]; simp), htl]
          have e2 : tryU U M zs n = U := by unfold tryU; rw [if_pos (by rw [e1]; simp)]
          rw [e1, e2] at HR
          clear e1 e2 htn htl
          generalize U.getD k 0 = u at *
          generalize M.getD k 0 = m at *
          go_wp2
          go_quiet (fail)
          go_wp2
          try go_ret2
          exact HR.out _ _ ⟨rfl, H1.out.1.keeps ((Keeps.refl [] _).drewN _) (by simp), (H1.out.2.2.wider (by simp)).trans ((Keeps.refl [b] _).drewN _) (by simp)⟩
        · have htn := HT.out.1
          rw [if_neg (by rw [HT.out.2.2 (by omega)]; simp)] at htn
          have HTN := Lib.hid htn
          clear htn
          generalize U.getD k 0 = u at *
          generalize M.getD k 0 = m at *
          go_wp2
          go_quiet (fail)
          go_wp2
          go_roundw
          case rel => exact ⟨j + 1, q + nq, by omega, by go_num, HTN.out, by simp⟩
          case measure => simp [intOf]; omega
      · obtain rfl : j = zs.length := by omega
        have e1 : tryR U M zs n = (0, 0) := by unfold tryR; rw [if_neg (by rw [he]; simp), htr]
        have e2 : tryU U M zs n = chgTo U zs n zs.length := by unfold tryU; rw [e1]; rfl
        rw [e1, e2] at HR
        have HNO := Lib.hid (tryI_none U M zs n zs.length htr)
        clear e1 e2 hlt hj htr
        go_wp2_with fail
        go_loopw [10] (fun i wr => ∃ j : Nat, j ≤ zs.length ∧ i = .int .i64 j ∧ RchIs wr b (chgTo U zs n j) M ∧ Keeps [b] w1 wr) (fun i _ => zs.length - (intOf i).toNat)
        case atStart => exact ⟨0, by omega, rfl, H1.out.1.keeps ((Keeps.refl [] _).drewN _) (by simp), (Keeps.refl _ _).drewN _⟩
        case round =>
          obtain ⟨j, hj, rfl, hc, hkr⟩ := hrel
          have HM := Lib.hid (And.intro hc hkr)
          clear hc hkr
          by_cases hlt : j < zs.length
          · obtain ⟨bp, off, ha, hb, hne, hc⟩ := (H1.out.2.1.keeps HM.out.2 (by simp)).at hlt
            subst ha
            have d0 := hc j hlt
            have hg := HIN.out.1 j hlt
            obtain ⟨k, hk, hk16⟩ : ∃ k : Nat, zs.getD j 0 = (k : Int) + 1 ∧ k < 16 := ⟨(zs.getD j 0 - 1).toNat, by omega, by omega⟩
            have hup := HNO.out j hlt
            rw [hk] at hup
            have hat := tryI_at (M := M) H1.out.1.lu HIN.out.2.2 hlt hk
            have hle : U.getD k 0 + n ≤ M.getD k 0 := Classical.byContradiction fun hc => hat.1 (by omega) hup
            have hno := dupTo_not zs zs.length HIN.out.2.1 j hlt
            rw [hk] at hno
            have heq := chgTo_get U zs n H1.out.1.lu HIN.out.1 HIN.out.2.1 k j hj
            rw [if_neg hno, Int.add_zero] at heq
            have hbk := HM.out.1.bu hk16
            have hbm := HM.out.1.bm hk16
            have d1 := HM.out.1.cu hk16
            have fr := HM.out.1.hd.free (k + 1)
            have hi : 0 ≤ (k : Int) + 1 ∧ (k : Int) + 1 < 17 := by omega
            have hmt : ((k : Int) + 1).toNat = k + 1 := by omega
            have hix : 0 ≤ (j : Int) ∧ (j : Int) < (zs.length : Int) := by omega
            have hst : chgTo U zs n (j + 1) = (chgTo U zs n j).set k ((chgTo U zs n j).getD k 0 + n) := by simp only [chgTo]; rw [hk, toNat_sub_one]
            have hset := (HM.out.1.keeps ((Keeps.refl [] wr).drew) (by simp)).setU k (x := (chgTo U zs n j).getD k 0 + n) hk16 (by rw [heq]; rw [heq] at hbk; omega)
            rw [← hst] at hset
            rw [hk] at d0
            have HS := Lib.hid hset
            have hle2 : (chgTo U zs n j).getD k 0 + n ≤ 9007199254740991 := by rw [heq]; omega
            clear hset hst heq hno hk hg hc hup hat hle hbm
            generalize (chgTo U zs n j).getD k 0 = u at *
            go_wp2
            go_region
            go_wp2
            go_roundw
            case rel => exact ⟨j + 1, by omega, by go_num, HS.out, HM.out.2.drew.set (.inl (by simp)) _⟩
            case measure => simp [intOf]; omega
          · obtain rfl : j = zs.length := by omega
            go_wp2
            try go_ret2
            exact HR.out _ _ ⟨rfl, HM.out.1, (H1.out.2.2.wider (by simp)).trans HM.out.2 (by simp)⟩
  · have e1 : tryR U M zs n = (0, askE zs n) := by unfold tryR; rw [if_pos he]
    have e2 : tryU U M zs n = U := by unfold tryU; rw [if_pos (by rw [e1]; exact he)]
    rw [e1, e2] at HR
    have q : (askE zs n != 0) = true := by simp [he]
    clear e1 e2 he
    generalize askE zs n = ee at *
    go_wp2
    try go_ret2
    exact HR.out _ _ ⟨rfl, H1.out.1, H1.out.2.2.wider (by simp)⟩

set_option maxRecDepth 100000 in
set_option maxHeartbeats 1600000 in
theorem rback_any (w : World) (b : Nat) (U M : List Int) (h : RchIs w b U M) (a : Option Addr) (zs : List Int) (cap : Nat) (n : Int) (hz : IntsAt w b a zs) :
    Calls Try.prog 109 #[.pointer (some ⟨b, 0, none⟩), .slice a zs.length cap, .int .i64 n] w fun e w' => e = .returned (.int .i64 (backE U zs n)) ∧ RchIs w' b (backU U zs n) M ∧ Keeps [b] w w' := by
  refine calls_hide fun R HR => ?_
  have hlen := hz.1
  have H0 := Lib.hid (And.intro h hz)
  clear h hz
  go_enter Try.func109, Try.ntmps109
  go_wp2_with fail
  refine (rasked_any w b a zs cap n H0.out.2).mono ?_
  rintro e w1 ⟨rfl, hk1⟩
  have H1 := Lib.hid (And.intro (H0.out.1.keeps hk1 (by simp)) (And.intro (H0.out.2.keeps hk1 (by simp)) hk1))
  clear hk1
  by_cases he : askE zs n = 0
  · rw [he]
    obtain ⟨hin, hd, hl0, hl8, hn0, hn1⟩ := ask_zero he
    have HIN := Lib.hid (And.intro hin hd)
    clear hin hd
    go_wp2_with fail
    go_loopw [8] (fun i wr => ∃ j q : Nat, j ≤ zs.length ∧ i = .int .i64 j ∧ lowTo U zs n j = false ∧ wr = w1.drewN q) (fun i _ => zs.length - (intOf i).toNat)
    case atStart => exact ⟨0, 0, by omega, rfl, rfl, rfl⟩
    case round =>
      obtain ⟨j, q, hj, rfl, hlow, rfl⟩ := hrel
      by_cases hlt : j < zs.length
      · obtain ⟨bp, off, ha, hb, hne, hc⟩ := H1.out.2.1.at hlt
        subst ha
        have d0 := hc j hlt
        have hg := HIN.out.1 j hlt
        obtain ⟨k, hk, hk16⟩ : ∃ k : Nat, zs.getD j 0 = (k : Int) + 1 ∧ k < 16 := ⟨(zs.getD j 0 - 1).toNat, by omega, by omega⟩
        have hlj : lowTo U zs n (j + 1) = decide (U.getD k 0 < n) := by simp only [lowTo]; rw [hlow, hk, toNat_sub_one]; rfl
        have hup := lowTo_up U zs n (j + 1) zs.length (by omega)
        have d1 := H1.out.1.cu hk16
        have hi : 0 ≤ (k : Int) + 1 ∧ (k : Int) + 1 < 17 := by omega
        have hmt : ((k : Int) + 1).toNat = k + 1 := by omega
        have hix : 0 ≤ (j : Int) ∧ (j : Int) < (zs.length : Int) := by omega
        rw [hk] at d0
        have HL := Lib.hid (And.intro hlj hup)
        clear hc hg hk hlow hlj hup
        by_cases hu : U.getD k 0 < n
        · have e1 : backE U zs n = 2 := by unfold backE; rw [if_neg (by rw [he]; simp), if_pos (HL.out.2 (by rw [HL.out.1]; exact decide_eq_true hu))]
          have e2 : backU U zs n = U := by unfold backU; rw [if_pos (by rw [e1]; decide)]
          rw [e1, e2] at HR
          clear e1 e2
          generalize U.getD k 0 = u at *
          go_wp2
          go_quiet (fail)
          go_wp2
          try go_ret
          exact HR.out _ _ ⟨rfl, H1.out.1.keeps (((Keeps.refl [] _).drewN q).drewN nq) (by simp), ((H1.out.2.2.wider (by simp)).drewN q).drewN nq⟩
        · have hlj : lowTo U zs n (j + 1) = false := by rw [HL.out.1]; exact decide_eq_false hu
          have HLJ := Lib.hid hlj
          clear hlj
          generalize U.getD k 0 = u at *
          go_wp2
          go_quiet (fail)
          go_wp2
          go_roundw
          case rel => exact ⟨j + 1, q + nq, by omega, by go_num, HLJ.out, by simp⟩
          case measure => simp [intOf]; omega
      · obtain rfl : j = zs.length := by omega
        have e1 : backE U zs n = 0 := by unfold backE; rw [if_neg (by rw [he]; simp), hlow]; rfl
        have e2 : backU U zs n = chgTo U zs (-n) zs.length := by unfold backU; rw [e1]; rfl
        rw [e1, e2] at HR
        have HLOW := Lib.hid (lowTo_not U zs n zs.length hlow)
        clear e1 e2 hlt hj hlow
        go_wp2_with fail
        go_loopw [9] (fun i wr => ∃ j : Nat, j ≤ zs.length ∧ i = .int .i64 j ∧ RchIs wr b (chgTo U zs (-n) j) M ∧ Keeps [b] w1 wr) (fun i _ => zs.length - (intOf i).toNat)
        case atStart => exact ⟨0, by omega, rfl, H1.out.1.keeps ((Keeps.refl [] _).drewN _) (by simp), (Keeps.refl _ _).drewN _⟩
        case round =>
          obtain ⟨j, hj, rfl, hc, hkr⟩ := hrel
          have HM := Lib.hid (And.intro hc hkr)
          clear hc hkr
          by_cases hlt : j < zs.length
          · obtain ⟨bp, off, ha, hb, hne, hc⟩ := (H1.out.2.1.keeps HM.out.2 (by simp)).at hlt
            subst ha
            have d0 := hc j hlt
            have hg := HIN.out.1 j hlt
            obtain ⟨k, hk, hk16⟩ : ∃ k : Nat, zs.getD j 0 = (k : Int) + 1 ∧ k < 16 := ⟨(zs.getD j 0 - 1).toNat, by omega, by omega⟩
            have hlo := HLOW.out j hlt
            rw [hk, toNat_sub_one] at hlo
            have hno := dupTo_not zs zs.length HIN.out.2 j hlt
            rw [hk] at hno
            have heq := chgTo_other U zs (-n) k j hj (fun i hi => (HIN.out.1 i hi).1) hno
            have hbk := HM.out.1.bu hk16
            have d1 := HM.out.1.cu hk16
            have fr := HM.out.1.hd.free (k + 1)
            have hi : 0 ≤ (k : Int) + 1 ∧ (k : Int) + 1 < 17 := by omega
            have hmt : ((k : Int) + 1).toNat = k + 1 := by omega
            have hix : 0 ≤ (j : Int) ∧ (j : Int) < (zs.length : Int) := by omega
            have hst : chgTo U zs (-n) (j + 1) = (chgTo U zs (-n) j).set k ((chgTo U zs (-n) j).getD k 0 - n) := by simp only [chgTo]; rw [hk, toNat_sub_one, Int.sub_eq_add_neg]
            have hset := (HM.out.1.keeps ((Keeps.refl [] wr).drew) (by simp)).setU k (x := (chgTo U zs (-n) j).getD k 0 - n) hk16 (by rw [heq]; rw [heq] at hbk; omega)
            rw [← hst] at hset
            rw [hk] at d0
            have HS := Lib.hid hset
            rw [← heq] at hlo
            clear hset hst heq hno hk hg hc
            generalize (chgTo U zs (-n) j).getD k 0 = u at *
            go_wp2
            go_region
            go_wp2
            go_roundw
            case rel => exact ⟨j + 1, by omega, by go_num, HS.out, HM.out.2.drew.set (.inl (by simp)) _⟩
            case measure => simp [intOf]; omega
          · obtain rfl : j = zs.length := by omega
            go_wp2
            try go_ret
            exact HR.out _ _ ⟨rfl, HM.out.1, (H1.out.2.2.wider (by simp)).trans HM.out.2 (by simp)⟩
  · have e1 : backE U zs n = askE zs n := by unfold backE; rw [if_pos he]
    have e2 : backU U zs n = U := by unfold backU; rw [if_pos (by rw [e1]; exact he)]
    rw [e1, e2] at HR
    have q : (askE zs n != 0) = true := by simp [he]
    clear e1 e2 he
    generalize askE zs n = ee at *
    go_wp2
    try go_ret
    exact HR.out _ _ ⟨rfl, H1.out.1, H1.out.2.2.wider (by simp)⟩

end Go.Proofs.Ytlndpljhcempoaa
