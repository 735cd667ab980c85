/- ChargeBounds, the walk: never below nought, nor, by Up and Try, above the limit; an error changes nothing. Condition: the list is read as calls. -/
import Derived.Test.YtlndpljhcempoaaChgK
namespace Go.Proofs.Ytlndpljhcempoaa
open Go.RowKit

attribute [local irreducible] tryR tryU backE backU askE limM upE upU downE downU

set_option maxRecDepth 100000 in
set_option maxHeartbeats 3200000 in
theorem chgbounds_keeps (a : Option Addr) (len cap : Nat) (w : World) (hz : IsElems w a len cap 4 (Good12 w)) :
    Calls Try.prog 20 #[.slice a len cap] w fun e w' => e = .returned (.bool true) ∧ Keeps [] w w' := by
  refine calls_hide fun R HR => ?_
  have hlen := hz.len_le
  have HZ := Lib.hid hz
  clear hz
  go_enter Try.func20, Try.ntmps20
  go_wp2_with fail
  refine (works12_any w).mono ?_
  rintro e w0 ⟨rfl, hk0⟩
  have H0 := Lib.hid hk0
  clear hk0
  go_wp2_with fail
  refine (new12_any w0).mono ?_
  rintro e w1 ⟨rfl, hc, hk⟩
  obtain ⟨b, hb⟩ : ∃ b, b = w0.heap.size := ⟨_, rfl⟩
  rw [← hb] at hc
  rw [← hb]
  have A1 := Lib.hid (At12.mk hc (H0.out.trans hk (by simp)) (show w.heap.size ≤ b by have := H0.out.size; omega))
  clear hc hk hb
  go_wp2_with fail
  go_loopw [4] (fun i wr => ∃ (j : Nat) (U M : List Int), j ≤ len ∧ i = .int .i64 j ∧ At12 w wr b U M) (fun i _ => len - (intOf i).toNat)
  case atStart => exact ⟨0, _, _, by omega, rfl, A1.out⟩
  case round =>
    obtain ⟨j, U, M, hj, rfl, hat⟩ := hrel
    have HA := Lib.hid hat
    clear hat
    by_cases hin : j < len ∧ j < 100
    · obtain ⟨hlt, hlt4⟩ := hin
      obtain ⟨bl, off, kd, g, m, ap, zs, cp, ha, hbl, hdo, hcp, hpa⟩ := HZ.out.four12 hlt
      subst ha
      obtain ⟨c0, c1, c2⟩ := hdo.keeps HA.out.ks hbl (by simp)
      have c3 := (HA.out.ks.cell (p := ⟨bl, off + j * 4 + 3, none⟩) hbl (by simp)).trans hcp
      have HPA := Lib.hid (hpa b HA.out.nb)
      clear hdo hcp hpa
      have hk1 : Keeps [] wr (wr.alloc (.cells #[.int .i64 kd, .int .i64 g, .int .i64 m, .slice ap zs.length cp] 56)) := (Keeps.refl [] wr).alloc _
      have hbx := Row.new wr [.int .i64 kd, .int .i64 g, .int .i64 m, .slice ap zs.length cp] 56
      have hbn : wr.heap.size ≠ b := by have := HA.out.is.hd.lt; omega
      have HB := Lib.hid (And.intro (HA.out.go (HA.out.is.keeps hk1 (by simp)) (hk1.wider (by simp))) (And.intro hbx (And.intro hbn HA.out.ks.size)))
      obtain ⟨bd, hbd⟩ : ∃ bd, bd = wr.heap.size := ⟨_, rfl⟩
      clear hk1 hbx hbn
      go_upto_region 8 with fail
      clear c0 c1 c2 c3
      rw [← hbd] at HB
      rw [← hbd]
      clear hbd
      generalize wr.alloc (.cells #[.int .i64 kd, .int .i64 g, .int .i64 m, .slice ap zs.length cp] 56) = wb at *
      have hka : Keeps [] wb (wb.alloc (.cells (List.replicate 17 (Value.int .i64 0)).toArray 61)) := (Keeps.refl [] wb).alloc _
      have hbv : wb.heap.size ≠ b := by have := HB.out.1.is.hd.lt; omega
      have hbd2 : bd < wb.heap.size := HB.out.2.1.lt
      have H2 := Lib.hid (And.intro (HB.out.1.go (HB.out.1.is.keeps hka (by simp)) (hka.wider (by simp))) (And.intro (And.intro (arr_new12 wb) (hka.row HB.out.2.1 (by simp))) (And.intro hbv (And.intro HB.out.1.ks.size (show bd ≠ wb.heap.size by omega)))))
      obtain ⟨bv, hbv'⟩ : ∃ bv, bv = wb.heap.size := ⟨_, rfl⟩
      clear hka hbv hbd2
      go_wp2_with fail
      rw [← hbv'] at H2
      rw [← hbv', decide_eq_true (show (j : Int) < 100 by omega)]
      clear hbv'
      have HW0 := Lib.hid (Was.mk (V := List.replicate 17 0) (U := U) (x := 0) rfl (fun k hk => by omega))
      have hv1 : bv ≠ b := H2.out.2.2.1
      have hv2 : bv ≠ bd := fun h => H2.out.2.2.2.2 h.symm
      have hd1 : bd ≠ b := HB.out.2.2.1
      go_loopw [7] (fun i wi => ∃ (x : Nat) (V : List Int), x ≤ 16 ∧ i = .int .i64 ((x : Int) + 1) ∧ At12 w wi b U M ∧ (ArrIs 61 wi bv V ∧ Row wi bd 56 [.int .i64 kd, .int .i64 g, .int .i64 m, .slice ap zs.length cp]) ∧ Was V U x) (fun i _ => 17 - (intOf i).toNat)
      case atStart => exact ⟨0, List.replicate 17 0, by omega, rfl, H2.out.1, H2.out.2.1, HW0.out⟩
      case round =>
        obtain ⟨x, V, hx16, rfl, hat, hv, hw⟩ := hrel
        have HM := Lib.hid (And.intro hat (And.intro hv hw))
        clear hat hv hw
        by_cases hx : x < 16
        · have hmt : ((x : Int) + 1).toNat = x + 1 := by omega
          have hi : 0 ≤ (x : Int) + 1 ∧ (x : Int) + 1 < 17 := by omega
          have fr := HM.out.2.1.1.row.free (x + 1)
          have c1 := HM.out.2.1.1.cell (g := x + 1) (by rw [HM.out.2.2.len]; omega)
          generalize V.getD (x + 1) 0 = v0 at c1
          have HU := Lib.hid (usedN_in U x hx)
          go_wp2_with fail
          refine (used_any wr b U M HM.out.1.is ((x : Int) + 1)).mono ?_
          rintro e y ⟨rfl, rfl⟩
          rw [HU.out]
          have hkv : Keeps [bv] wr (wr.setCell ⟨bv, x + 1, none⟩ (.int .i64 (U.getD x 0))) := (Keeps.refl [bv] _).set (by simp) _
          have HN := Lib.hid (And.intro (At12.mk (HM.out.1.is.keeps hkv (by simpa using fun h => hv1 h.symm)) (HM.out.1.ks.set (.inr (by show w.heap.size ≤ bv; exact H2.out.2.2.2.1)) _) HM.out.1.nb) (And.intro (And.intro (HM.out.2.1.1.set (x + 1) (U.getD x 0)) (hkv.row HM.out.2.1.2 (by simpa using fun h => hv2 h.symm))) (HM.out.2.2.next hx)))
          clear hkv
          go_wp2
          go_roundw
          case rel => exact ⟨x + 1, _, by omega, by go_num, HN.out.1, HN.out.2.1, HN.out.2.2⟩
          case measure => simp [intOf]; omega
        · obtain rfl : x = 16 := by omega
          clear hx
          have HW := Lib.hid HM.out.2.2
          have d0 := HM.out.2.1.2.cell (i := 0) rfl
          have d1 := HM.out.2.1.2.cell (i := 1) rfl
          have d2 := HM.out.2.1.2.cell (i := 2) rfl
          have d3 := HM.out.2.1.2.cell (i := 3) rfl
          have HC := Lib.hid (And.intro HM.out.1 HM.out.2.1.1)
          have HP := Lib.hid (HPA.out.keeps HM.out.1.ks (by simp))
          clear HM
          go_wp2_with fail
          refine (bring_any kd 5 _ (by omega) (by omega)).mono ?_
          rintro e y ⟨rfl, rfl⟩
          obtain ⟨kz, hkz⟩ : ∃ kz, kz = kd % 5 := ⟨_, rfl⟩
          rw [← hkz]
          have hkk : kz = 0 ∨ kz = 1 ∨ kz = 2 ∨ kz = 3 ∨ kz = 4 := by omega
          clear hkz
          go_upto_block 4 with fail
          go_cut [8] (fun e wx => ∃ (ez : Int) (U' M' : List Int), e = .int .i64 ez ∧ At12 w wx b U' M' ∧ ArrIs 61 wx bv V ∧ StepOk U ez kz U' M')
          case first =>
            rcases hkk with rfl | rfl | rfl | rfl | rfl
            · go_wp2_with fail
              refine (limit_any wr b U M HC.out.1.is g m).mono ?_
              rintro e w5 ⟨rfl, hc, hk5⟩
              have H5 := Lib.hid (And.intro (HC.out.1.go hc hk5) (And.intro (HC.out.2.keeps hk5 (by simpa using hv1)) (StepOk.refl U (limM M g m) (askE [g] m) 0)))
              clear hc hk5
              go_wp2
              go_meet
              exact ⟨_, _, _, rfl, H5.out.1, H5.out.2.1, H5.out.2.2⟩
            · go_wp2_with fail
              refine (up_any wr b U M HC.out.1.is g m).mono ?_
              rintro e w5 ⟨rfl, hc, hk5⟩
              have H5 := Lib.hid (And.intro (HC.out.1.go hc hk5) (And.intro (HC.out.2.keeps hk5 (by simpa using hv1)) (stepOk_up U M g m 1 HC.out.1.is.lu (by omega))))
              clear hc hk5
              go_wp2
              go_meet
              exact ⟨_, _, _, rfl, H5.out.1, H5.out.2.1, H5.out.2.2⟩
            · go_wp2_with fail
              refine (down_any wr b U M HC.out.1.is g m).mono ?_
              rintro e w5 ⟨rfl, hc, hk5⟩
              have H5 := Lib.hid (And.intro (HC.out.1.go hc hk5) (And.intro (HC.out.2.keeps hk5 (by simpa using hv1)) (stepOk_down U M g m 2 HC.out.1.is.lu (by omega))))
              clear hc hk5
              go_wp2
              go_meet
              exact ⟨_, _, _, rfl, H5.out.1, H5.out.2.1, H5.out.2.2⟩
            · go_wp2_with fail
              refine (try_any wr b U M HC.out.1.is ap zs cp m HP.out).mono ?_
              rintro e w5 ⟨rfl, hc, hk5⟩
              have H5 := Lib.hid (And.intro (HC.out.1.go hc hk5) (And.intro (HC.out.2.keeps hk5 (by simpa using hv1)) (stepOk_try U M zs m 3 HC.out.1.is.lu (by omega))))
              clear hc hk5
              go_wp2
              go_meet
              exact ⟨_, _, _, rfl, H5.out.1, H5.out.2.1, H5.out.2.2⟩
            · go_wp2_with fail
              refine (back_any wr b U M HC.out.1.is ap zs cp m HP.out).mono ?_
              rintro e w5 ⟨rfl, hc, hk5⟩
              have H5 := Lib.hid (And.intro (HC.out.1.go hc hk5) (And.intro (HC.out.2.keeps hk5 (by simpa using hv1)) (stepOk_back U M zs m 4 HC.out.1.is.lu (by omega))))
              clear hc hk5
              go_wp2
              go_meet
              exact ⟨_, _, _, rfl, H5.out.1, H5.out.2.1, H5.out.2.2⟩
          case rest =>
            obtain ⟨ez, U', M', rfl, hat, hv, hst⟩ := hcut
            have HS := Lib.hid (And.intro (And.intro hat hv) hst)
            clear hat hv hst HC HP d0 d1 d2 d3
            go_wp2_with fail
            go_loopw [10] (fun i wi => ∃ y : Nat, y ≤ 16 ∧ i = .int .i64 ((y : Int) + 1) ∧ At12 w wi b U' M' ∧ ArrIs 61 wi bv V) (fun i _ => 17 - (intOf i).toNat)
            case atStart => exact ⟨0, by omega, rfl, HS.out.1.1, HS.out.1.2⟩
            case round =>
              obtain ⟨y, hy16, rfl, hat, hv⟩ := hrel
              have HI := Lib.hid (And.intro hat hv)
              clear hat hv
              by_cases hy : y < 16
              · have hmt : ((y : Int) + 1).toNat = y + 1 := by omega
                have hi : 0 ≤ (y : Int) + 1 ∧ (y : Int) + 1 < 17 := by omega
                have c1 := HI.out.2.cell (g := y + 1) (by rw [HW.out.len]; omega)
                rw [HW.out.each y hy] at c1
                have hub := HI.out.1.is.bu hy
                have hlim := HS.out.2.lim y hy
                have HU := Lib.hid (And.intro (usedN_in U' y hy) (usedN_in M' y hy))
                by_cases hc : ez ≠ 0 ∨ kz = 0
                · have hsame := HS.out.2.same hc
                  rw [hsame] at hub
                  have HSA := Lib.hid hsame
                  clear hlim hsame
                  go_wp2_with fail
                  refine (used_any wr b U' M' HI.out.1.is ((y : Int) + 1)).mono ?_
                  rintro e y' ⟨rfl, rfl⟩
                  rw [HU.out.1, HSA.out]
                  generalize U.getD y 0 = u at *
                  have hq : (u != u) = false := by simp
                  by_cases he : ez = 0
                  · have hz0 : kz = 0 := by omega
                    subst he hz0
                    go_wp2
                    go_roundw
                    case rel => exact ⟨y + 1, by omega, by go_num, HI.out.1, HI.out.2⟩
                    case measure => simp [intOf]; omega
                  · have hq2 : (ez != 0) = true := by simp [he]
                    clear hc he
                    go_wp2
                    go_roundw
                    case rel => exact ⟨y + 1, by omega, by go_num, HI.out.1, HI.out.2⟩
                    case measure => simp [intOf]; omega
                · have he : ez = 0 := by omega
                  have hz0 : ¬ kz = 0 := by omega
                  subst he
                  have hq2 : (kz == 0) = false := beq_eq_false_iff_ne.2 hz0
                  clear hc hz0
                  go_wp2_with fail
                  refine (used_any wr b U' M' HI.out.1.is ((y : Int) + 1)).mono ?_
                  rintro e y' ⟨rfl, rfl⟩
                  rw [HU.out.1]
                  have HMO := Lib.hid (most_any wr b U' M' HI.out.1.is ((y : Int) + 1))
                  generalize U'.getD y 0 = n' at *
                  generalize U.getD y 0 = u at *
                  by_cases hlt' : u < n'
                  · have hle := hlim hlt'
                    have HLE := Lib.hid hle
                    clear hlim hle
                    go_wp2_with fail
                    refine HMO.out.mono ?_
                    rintro e y' ⟨rfl, rfl⟩
                    rw [HU.out.2]
                    have hle := HLE.out
                    generalize M'.getD y 0 = mm at *
                    go_wp2
                    go_roundw
                    case rel => exact ⟨y + 1, by omega, by go_num, HI.out.1, HI.out.2⟩
                    case measure => simp [intOf]; omega
                  · clear hlim
                    go_wp2
                    go_roundw
                    case rel => exact ⟨y + 1, by omega, by go_num, HI.out.1, HI.out.2⟩
                    case measure => simp [intOf]; omega
              · go_wp2
                go_roundw
                case rel => exact ⟨j + 1, U', M', by omega, by go_num, HI.out.1⟩
                case measure => simp [intOf]; omega
    · have hout : ¬ j < len ∨ 100 ≤ j := by omega
      have HK := Lib.hid HA.out.ks
      clear hin
      go_wp2
      all_goals (try go_ret)
      all_goals (exact HR.out _ _ ⟨rfl, HK.out⟩)

theorem chgbounds_any (a : Option Addr) (len cap : Nat) (w : World) (hz : IsElems w a len cap 4 (Good12 w)) :
    Calls Try.prog 20 #[.slice a len cap] w fun e w' => e = .returned (.bool true) ∧ Below w.heap.size w w' :=
  (chgbounds_keeps a len cap w hz).mono fun _ _ ⟨he, hk⟩ => ⟨he, hk.below (Nat.le_refl _) (by simp)⟩

end Go.Proofs.Ytlndpljhcempoaa
