/- OwnerMoves, the walk: Move changes no sum of the two Counts. Condition: the list is read as calls. -/
import Derived.Test.YtlndpljhcempoaaOpen14
import Derived.Deep.DeepCutAuto
import Derived.Deep.CutBlock
namespace Go.Proofs.Ytlndpljhcempoaa
open Go.RowKit

theorem cntO_of {S O : Nat} {f : Int → Int → Int} {g : Int} (h : g ≠ 0) : cntO S O f g = (ofG S O f g : Nat) := if_neg h

attribute [local irreducible] setE setF mvE mvN mvS clrE clrF cntO

set_option maxRecDepth 100000 in
set_option maxHeartbeats 6400000 in
theorem moves14_keeps (a : Option Addr) (len cap : Nat) (from0 to0 : Int) (w : World) (hz : IsElems w a len cap 5 GoodNum) :
    Calls Try.prog 16 #[.slice a len cap, .int .i64 from0, .int .i64 to0] w fun e w' => e = .returned (.bool true) ∧ Keeps [] w w' := by
  refine calls_hide fun R HR => ?_
  have hlen := hz.len_le
  have HZ := Lib.hid hz
  clear hz
  go_enter Try.func16, Try.ntmps16
  go_wp2_with fail
  refine (onew_ok w 5 16 (by omega) (by omega) (by omega) (by omega)).mono ?_
  rintro e w1 ⟨rfl, hc, hk⟩
  obtain ⟨m, hm⟩ : ∃ m, m = w.heap.size := ⟨_, rfl⟩
  obtain ⟨b, hb⟩ : ∃ b, b = w.heap.size + 1 := ⟨_, rfl⟩
  rw [← hb, ← hm] at hc
  rw [← hb]
  have A1 := Lib.hid (At14.mk hc hk (by omega))
  clear hc hk hb hm
  go_upto_block 0 with fail
  go_cut [9] (fun _ wx => ∃ f, At14 w wx b m 5 16 f)
  case first =>
    go_wp2_with fail
    go_loopw [9] (fun i wr => ∃ (j : Nat) (f : Int → Int → Int), j ≤ len ∧ i = .int .i64 j ∧ At14 w wr b m 5 16 f) (fun i _ => len - (intOf i).toNat)
    case atStart => exact ⟨0, _, by omega, rfl, A1.out⟩
    case round =>
      obtain ⟨j, f, hj, rfl, hat⟩ := hrel
      have HA := Lib.hid hat
      clear hat
      by_cases hin : j < len ∧ j < 100
      · obtain ⟨hlt, hlt4⟩ := hin
        obtain ⟨bl, off, kd, s, i, x, y, ha, hbl, hdo⟩ := HZ.out.five hlt
        subst ha
        obtain ⟨c0, c1, c2, c3, c4⟩ := hdo.keeps HA.out.ks hbl (by simp)
        have hbm : bl ≠ m := by have := HA.out.nb; omega
        have hbw : bl < wr.heap.size := Nat.lt_of_lt_of_le hbl HA.out.ks.size
        clear hdo c0 c4
        have D0 := Lib.hid (HA.out.is.keeps ((Keeps.refl [] wr).drew) (by simp) (by simp))
        go_wp2_with fail
        go_region_held3 (fun w' => w'.cell? ⟨bl, off + j * 5 + 1, none⟩ = some (.int .i64 s) ∧ w'.cell? ⟨bl, off + j * 5 + 2, none⟩ = some (.int .i64 i) ∧ w'.cell? ⟨bl, off + j * 5 + 3, none⟩ = some (.int .i64 x)) (go_keep)
          (first
            | (go_at_call 22; refine (bring_any _ _ _ (by omega) (by omega)).mono ?_; rintro e y ⟨rfl, rfl⟩)
            | (go_at_call 60; refine (oset_any _ b m 5 16 f D0.out _ _ _).mono ?_; rintro e w2 ⟨rfl, hc, hk⟩; have hx1 := (hk.cell (p := ⟨bl, off + j * 5 + 1, none⟩) (by exact hbw) (by simpa using hbm)).trans c1; have hx2 := (hk.cell (p := ⟨bl, off + j * 5 + 2, none⟩) (by exact hbw) (by simpa using hbm)).trans c2; have hx3 := (hk.cell (p := ⟨bl, off + j * 5 + 3, none⟩) (by exact hbw) (by simpa using hbm)).trans c3; have H2 := Lib.hid (And.intro hc hk); clear hc hk))
        go_wp2
        go_roundw
        case rel => exact ⟨j + 1, _, by omega, by go_num, HA.out.go H2.out.1 (((Keeps.refl [m] wr).drew).trans H2.out.2 (by simp))⟩
        case measure => simp [intOf]; omega
      · have hout : ¬ j < len ∨ 100 ≤ j := by omega
        clear hin
        go_wp2
        all_goals (go_meet; exact ⟨f, HA.out⟩)
  case rest =>
    obtain ⟨f, hat⟩ := hcut
    have HA := Lib.hid hat
    clear hat A1
    obtain ⟨wr, hwr⟩ : ∃ wr, wr = wc := ⟨_, rfl⟩
    subst hwr
    have hx := And.intro (Int.emod_nonneg from0 (b := 5) (by omega)) (Int.emod_lt_of_pos from0 (b := 5) (by omega))
    have hy := And.intro (Int.emod_nonneg to0 (b := 5) (by omega)) (Int.emod_lt_of_pos to0 (b := 5) (by omega))
    go_wp2_with fail
    refine (bring_any from0 5 _ (by omega) (by omega)).mono ?_
    rintro e y1 ⟨rfl, rfl⟩
    go_wp2_with fail
    refine (bring_any to0 5 _ (by omega) (by omega)).mono ?_
    rintro e y1 ⟨rfl, rfl⟩
    go_wp2_with fail
    have hx' : 1 ≤ 1 + from0 % 5 ∧ 1 + from0 % 5 ≤ 5 := by omega
    have hy' : 1 ≤ 1 + to0 % 5 ∧ 1 + to0 % 5 ≤ 5 := by omega
    clear hx hy
    generalize 1 + from0 % 5 = x at *
    generalize 1 + to0 % 5 = y at *
    have HX := Lib.hid (And.intro hx' hy')
    clear hx' hy'
    have HE : Hid (mvE x y = 0) := Lib.hid (by simp [mvE, grp_true (show 1 ≤ x ∧ x ≤ 16 by have := HX.out; omega), grp_true (show 1 ≤ y ∧ y ≤ 16 by have := HX.out; omega)])
    have HN : Hid (mvN 5 16 f x y = if x = y then (0 : Int) else ((ofG 5 16 f x : Nat) : Int)) := Lib.hid (by simp [mvN, grp_true (show 1 ≤ x ∧ x ≤ 16 by have := HX.out; omega), grp_true (show 1 ≤ y ∧ y ≤ 16 by have := HX.out; omega)])
    have HF : Hid (mvS f x y = if x = y then f else moveF f x y) := Lib.hid (by simp [mvS, grp_true (show 1 ≤ x ∧ x ≤ 16 by have := HX.out; omega), grp_true (show 1 ≤ y ∧ y ≤ 16 by have := HX.out; omega)])
    refine (ocount_any wr b m 5 16 f HA.out.is x).mono ?_
    rintro e w2 ⟨rfl, hk⟩
    rw [cntO_of (show x ≠ 0 by have := HX.out; omega)]
    have H2 := Lib.hid (HA.out.quiet hk)
    clear hk
    go_wp2_with fail
    refine (ocount_any w2 b m 5 16 f H2.out.is y).mono ?_
    rintro e w3 ⟨rfl, hk⟩
    rw [cntO_of (show y ≠ 0 by have := HX.out; omega)]
    have H3 := Lib.hid (H2.out.quiet hk)
    clear hk
    go_wp2_with fail
    refine (omove_any w3 b m 5 16 f H3.out.is x y).mono ?_
    rintro e w4 ⟨rfl, hc, hk⟩
    rw [HN.out, HE.out]
    rw [HF.out] at hc
    have H4 := Lib.hid (H3.out.go hc hk)
    clear hc hk
    by_cases hxy : x = y
    · rw [if_pos hxy] at H4
      rw [if_pos hxy]
      have hb : (x == y) = true := beq_iff_eq.2 hxy
      have HXY := Lib.hid hxy
      clear hxy
      have qa : ((ofG 5 16 f x : Int) == (ofG 5 16 f x : Int)) = true := by simp
      go_wp2_with fail
      refine (ocount_any w4 b m 5 16 f H4.out.is x).mono ?_
      rintro e w5 ⟨rfl, hk⟩
      rw [cntO_of (show x ≠ 0 by have := HX.out; omega)]
      have H5 := Lib.hid (H4.out.quiet hk)
      clear hk
      go_wp2_with fail
      refine (works14_any w5).mono ?_
      rintro e w6 ⟨rfl, hk⟩
      have H6 := Lib.hid (H5.out.ks.trans hk (by simp))
      clear hk
      go_wp2
      try go_ret
      exact HR.out _ _ ⟨rfl, H6.out⟩
    · rw [if_neg hxy] at H4
      rw [if_neg hxy]
      have hb : (x == y) = false := beq_eq_false_iff_ne.2 hxy
      have qa : ((ofG 5 16 f x : Int) == (ofG 5 16 f x : Int)) = true := by simp
      have HC1 := Lib.hid (ofG_moved_from 5 16 f hxy)
      have HC2 := Lib.hid (ofG_moved_to 5 16 f hxy)
      have l1 := ofG_le 5 16 f x
      have l2 := ofG_le 5 16 f y
      clear hxy
      generalize ofG 5 16 f x = A at *
      generalize ofG 5 16 f y = B at *
      go_wp2_with fail
      refine (ocount_any w4 b m 5 16 _ H4.out.is x).mono ?_
      rintro e w5 ⟨rfl, hk⟩
      rw [cntO_of (show x ≠ 0 by have := HX.out; omega), HC1.out]
      have H5 := Lib.hid (H4.out.quiet hk)
      clear hk
      go_wp2_with fail
      refine (ocount_any w5 b m 5 16 _ H5.out.is y).mono ?_
      rintro e w6 ⟨rfl, hk⟩
      rw [cntO_of (show y ≠ 0 by have := HX.out; omega), HC2.out]
      have H6 := Lib.hid (H5.out.quiet hk)
      clear hk
      have qs : (((A + B : Nat) : Int) == (A : Int) + (B : Int)) = true := by simp
      go_wp2_with fail
      refine (works14_any w6).mono ?_
      rintro e w7 ⟨rfl, hk⟩
      have H7 := Lib.hid (H6.out.ks.trans hk (by simp))
      clear hk
      go_wp2
      try go_ret
      exact HR.out _ _ ⟨rfl, H7.out⟩

theorem moves14_any (a : Option Addr) (len cap : Nat) (from0 to0 : Int) (w : World) (hz : IsElems w a len cap 5 GoodNum) :
    Calls Try.prog 16 #[.slice a len cap, .int .i64 from0, .int .i64 to0] w fun e w' => e = .returned (.bool true) ∧ Below w.heap.size w w' :=
  (moves14_keeps a len cap from0 to0 w hz).mono fun _ _ ⟨he, hk⟩ => ⟨he, hk.below (Nat.le_refl _) (by simp)⟩

end Go.Proofs.Ytlndpljhcempoaa
