/- StockTakes, the walk: what was put is there to be taken, by its group alone. Condition: the two groups are ints. -/
import Derived.Test.YtlndpljhcempoaaStkPlaysW
import Derived.BigQuiet
import Derived.Deep.DeepCutAuto
namespace Go.Proofs.Ytlndpljhcempoaa
open Go.RowKit

theorem put_one (a n : Int) (ha : 1 ≤ a ∧ a ≤ 16) (hn : 0 ≤ n ∧ n ≤ 1024) : putE [(0, 0)] 0 a n = 0 ∧ putR [(0, 0)] 0 a n = (0, 0) ∧ putL [(0, 0)] 0 a n = [whole2 a n] := by
  have h := put_same [(0, 0)] 0 a n 0 0 (by simp) rfl ha (by omega) (by omega) (by omega)
  rw [Int.zero_add] at h
  exact h

theorem at2_one (p : Int × Int) : at2 [p] 0 = p := rfl

theorem take_other (a b n t : Int) (hab : ¬ a = b) (_hb : 1 ≤ b) (ht : 1 ≤ t) : takeB [whole2 a n] 0 b t = false := by
  unfold takeB
  rw [at2_one]
  unfold whole2
  by_cases h : n = 0
  · simp [h]; omega
  · simp [h]; intros; omega

theorem take_low (p : Int × Int) (a t : Int) (ht : t < 1) : takeB [p] 0 a t = false := by
  unfold takeB
  have : ¬ 1 ≤ t := by omega
  simp [this]

theorem takeL_false {L : List (Int × Int)} {c g n : Int} (h : takeB L c g n = false) : takeL L c g n = L := by unfold takeL; rw [h]; rfl

theorem take_own (a n t : Int) (_ha : 1 ≤ a) (hn : 0 ≤ n) (ht : 1 ≤ t) : takeB [whole2 a n] 0 a t = decide (t ≤ n) := by
  unfold takeB
  rw [at2_one]
  unfold whole2
  have hk : okC [whole2 a n] 0 = true := rfl
  by_cases h : n = 0
  · subst h
    have h1 : ¬ t ≤ 0 := by omega
    simp [h1]
  · have : okC [(a, n)] 0 = true := rfl
    simp [h, ht, this]

theorem takeL_own (a n t : Int) (ha : 1 ≤ a) (hn : 0 ≤ n) (ht : 1 ≤ t) (h : t ≤ n) : takeL [whole2 a n] 0 a t = [whole2 a (n - t)] := by
  unfold takeL
  rw [take_own a n t ha hn ht, decide_eq_true h, if_pos rfl, at2_one]
  have : (whole2 a n).2 = n := by unfold whole2; rw [if_neg (by omega)]
  rw [this]
  rfl

set_option maxRecDepth 100000 in
set_option maxHeartbeats 3200000 in
theorem takes_keeps (x y n take : Int) (w : World) :
    Calls Try.prog 12 #[.agg #[.int .i64 x, .int .i64 y], .int .i64 n, .int .i64 take] w fun e w' => e = .returned (.bool true) ∧ Keeps [] w w' := by
  refine calls_hide fun R HR => ?_
  have hk0 := (Keeps.refl [] w).alloc (.cells #[.int .i64 x, .int .i64 y] 89)
  have H0 := Lib.hid (And.intro hk0 (Row.new w [.int .i64 x, .int .i64 y] 89))
  clear hk0
  go_enter Try.func12, Try.ntmps12
  go_wp2_with fail
  generalize w.alloc (.cells #[.int .i64 x, .int .i64 y] 89) = w0 at *
  refine (snew_ok w0 1 (by omega) (by omega)).mono ?_
  rintro e w1 ⟨rfl, hm, hk⟩
  obtain ⟨b1, hb1⟩ : ∃ b1, b1 = w0.heap.size + 1 := ⟨_, rfl⟩
  obtain ⟨s1, hs1⟩ : ∃ s1, s1 = w0.heap.size := ⟨_, rfl⟩
  rw [← hb1, ← hs1] at hm
  rw [← hb1]
  have hrow := hk.row H0.out.2 (by simp)
  have hge : w.heap.size ≤ b1 ∧ w.heap.size ≤ s1 := by have := H0.out.1.size; omega
  have c0 := hrow.cell (i := 0) rfl
  have c1 := hrow.cell (i := 1) rfl
  have H1 := Lib.hid (And.intro hge (And.intro hm (H0.out.1.trans hk (by simp))))
  clear hb1 hs1 hk hm hge hrow
  go_wp2_with fail
  go_quiet (first | (go_at_call 22; exact Calls.quiet_of_same ((bring_any _ 16 _ (by omega) (by omega)).mono fun _ _ h => ⟨h.1, h.2.symm⟩)))
  have HQ := Lib.hid (And.intro (H1.out.2.1.drewN nq) (H1.out.2.2.drewN nq))
  generalize w1.drewN nq = wq at *
  clear c0 c1
  obtain ⟨a, ha⟩ : ∃ a, a = 1 + x % 16 := ⟨_, rfl⟩
  obtain ⟨b, hb⟩ : ∃ b, b = 1 + y % 16 := ⟨_, rfl⟩
  rw [← ha, ← hb]
  have ha' : 1 ≤ a ∧ a ≤ 16 := by omega
  have hb' : 1 ≤ b ∧ b ≤ 16 := by omega
  clear ha hb
  go_wp2_with fail
  refine (bring_any n 1025 _ (by omega) (by omega)).mono ?_
  rintro e w' ⟨rfl, rfl⟩
  obtain ⟨nn, hnn, hn0⟩ : ∃ nn : Int, n % 1025 = nn ∧ 0 ≤ nn ∧ nn ≤ 1024 := ⟨n % 1025, rfl, by omega, by omega⟩
  rw [hnn]
  clear hnn
  go_wp2_with fail
  refine (bring_any take 1200 _ (by omega) (by omega)).mono ?_
  rintro e w' ⟨rfl, rfl⟩
  obtain ⟨t0, ht0, ht1⟩ : ∃ t0 : Int, take % 1200 = t0 ∧ 0 ≤ t0 ∧ t0 < 1200 := ⟨take % 1200, rfl, by omega, by omega⟩
  rw [ht0]
  clear ht0
  obtain ⟨e1, e2, e3⟩ := put_one a nn ha' hn0
  have HE := Lib.hid (And.intro e1 (And.intro e2 e3))
  clear e1 e2 e3
  go_wp2_with fail
  refine (put_any wq b1 s1 _ HQ.out.1 0 a nn).mono ?_
  rintro e w2 ⟨rfl, hs, hk⟩
  have hz : List.replicate 1 ((0 : Int), (0 : Int)) = [(0, 0)] := rfl
  rw [hz, HE.out.2.2] at hs
  rw [hz, HE.out.1, HE.out.2.1]
  have H2 := Lib.hid (And.intro hs (HQ.out.2.trans hk (by simp; have := H1.out.1; omega)))
  clear hs hk hz
  obtain ⟨t, ht⟩ : ∃ t, t = 1 + t0 := ⟨_, rfl⟩
  have ht' : 1 ≤ t ∧ t ≤ 1200 := by omega
  have HL := Lib.hid (take_low (whole2 a nn) a 0 (by omega))
  have HL2 := Lib.hid (take_low (whole2 a nn) a (-1) (by omega))
  have HO := Lib.hid (take_own a nn t ha'.1 hn0.1 ht'.1)
  by_cases hab : a = b
  · subst hab
    have qab : (a != a) = false := by simp
    go_wp2_with fail
    rw [← ht]
    have HT := Lib.hid ht
    clear ht
    refine (take_any w2 b1 s1 _ H2.out.1 0 a 0).mono ?_
    rintro e w3 ⟨rfl, hs, hk⟩
    rw [takeL_false HL.out] at hs
    rw [HL.out]
    have H3 := Lib.hid (And.intro hs (H2.out.2.trans hk (by simp; have := H1.out.1; omega)))
    clear hs hk
    go_wp2_with fail
    refine (take_any w3 b1 s1 _ H3.out.1 0 a (-1)).mono ?_
    rintro e w4 ⟨rfl, hs, hk⟩
    rw [takeL_false HL2.out] at hs
    rw [HL2.out]
    have H4 := Lib.hid (And.intro hs (H3.out.2.trans hk (by simp; have := H1.out.1; omega)))
    clear hs hk
    go_wp2_with fail
    refine (take_any w4 b1 s1 _ H4.out.1 0 a t).mono ?_
    rintro e w5 ⟨rfl, hs, hk⟩
    by_cases htn : t ≤ nn
    · rw [takeL_own a nn t ha'.1 hn0.1 ht'.1 htn] at hs
      rw [HO.out, decide_eq_true htn]
      have H5 := Lib.hid (And.intro hs (H4.out.2.trans hk (by simp; have := H1.out.1; omega)))
      clear hs hk
      go_wp2_with fail
      refine (has_any w5 b1 s1 _ H5.out.1 0).mono ?_
      rintro e w6 ⟨rfl, hk⟩
      rw [at2_one]
      have H6 := Lib.hid (H5.out.2.trans hk (by simp))
      clear hk
      by_cases hz : nn - t = 0
      · have hw : whole2 a (nn - t) = (0, 0) := by unfold whole2; rw [if_pos hz]
        rw [hw]
        have q1 : (0 == nn - t) = true := by rw [hz]; rfl
        have q2 : ((0 : Int) == a) = false := beq_eq_false_iff_ne.2 (by omega)
        have q3 : (nn - t == 0) = true := by rw [hz]; rfl
        go_wp2_with (go_at_call 54; refine (works13_any w6).mono ?_; rintro e w7 ⟨rfl, hk7⟩)
        try go_ret
        exact HR.out _ _ ⟨rfl, H6.out.trans hk7 (by simp)⟩
      · have hw : whole2 a (nn - t) = (a, nn - t) := by unfold whole2; rw [if_neg hz]
        rw [hw]
        have q1 : (nn - t == nn - t) = true := by simp
        have q2 : (a == a) = true := by simp
        go_wp2_with (go_at_call 54; refine (works13_any w6).mono ?_; rintro e w7 ⟨rfl, hk7⟩)
        try go_ret
        exact HR.out _ _ ⟨rfl, H6.out.trans hk7 (by simp)⟩
    · have htf : takeB [whole2 a nn] 0 a t = false := by rw [HO.out, decide_eq_false htn]
      rw [takeL_false htf] at hs
      rw [htf]
      have H5 := Lib.hid (And.intro hs (H4.out.2.trans hk (by simp; have := H1.out.1; omega)))
      clear hs hk htf
      go_wp2_with fail
      refine (has_any w5 b1 s1 _ H5.out.1 0).mono ?_
      rintro e w6 ⟨rfl, hk⟩
      rw [at2_one]
      have H6 := Lib.hid (H5.out.2.trans hk (by simp))
      clear hk
      by_cases hz : nn = 0
      · have hw : whole2 a nn = (0, 0) := by unfold whole2; rw [if_pos hz]
        rw [hw]
        have q1 : ((0 : Int) == nn) = true := by rw [hz]; rfl
        have q2 : ((0 : Int) == a) = false := beq_eq_false_iff_ne.2 (by omega)
        have q3 : (nn == 0) = true := by rw [hz]; rfl
        go_wp2_with (go_at_call 54; refine (works13_any w6).mono ?_; rintro e w7 ⟨rfl, hk7⟩)
        try go_ret
        exact HR.out _ _ ⟨rfl, H6.out.trans hk7 (by simp)⟩
      · have hw : whole2 a nn = (a, nn) := by unfold whole2; rw [if_neg hz]
        rw [hw]
        have q1 : (nn == nn) = true := by simp
        have q2 : (a == a) = true := by simp
        go_wp2_with (go_at_call 54; refine (works13_any w6).mono ?_; rintro e w7 ⟨rfl, hk7⟩)
        try go_ret
        exact HR.out _ _ ⟨rfl, H6.out.trans hk7 (by simp)⟩
  ·
    have qab : (a != b) = true := by simp [hab]
    have HB := Lib.hid (take_other a b nn t hab hb'.1 ht'.1)
    have HAB := Lib.hid hab
    clear hab
    go_wp2_with fail
    rw [← ht]
    have HT := Lib.hid ht
    clear ht
    refine (take_any w2 b1 s1 _ H2.out.1 0 b t).mono ?_
    rintro e w2' ⟨rfl, hs, hk⟩
    rw [takeL_false HB.out] at hs
    rw [HB.out]
    have H2' := Lib.hid (And.intro hs (H2.out.2.trans hk (by simp; have := H1.out.1; omega)))
    clear hs hk
    go_wp2_with fail
    refine (take_any w2' b1 s1 _ H2'.out.1 0 a 0).mono ?_
    rintro e w3 ⟨rfl, hs, hk⟩
    rw [takeL_false HL.out] at hs
    rw [HL.out]
    have H3 := Lib.hid (And.intro hs (H2'.out.2.trans hk (by simp; have := H1.out.1; omega)))
    clear hs hk
    go_wp2_with fail
    refine (take_any w3 b1 s1 _ H3.out.1 0 a (-1)).mono ?_
    rintro e w4 ⟨rfl, hs, hk⟩
    rw [takeL_false HL2.out] at hs
    rw [HL2.out]
    have H4 := Lib.hid (And.intro hs (H3.out.2.trans hk (by simp; have := H1.out.1; omega)))
    clear hs hk
    go_wp2_with fail
    refine (take_any w4 b1 s1 _ H4.out.1 0 a t).mono ?_
    rintro e w5 ⟨rfl, hs, hk⟩
    by_cases htn : t ≤ nn
    · rw [takeL_own a nn t ha'.1 hn0.1 ht'.1 htn] at hs
      rw [HO.out, decide_eq_true htn]
      have H5 := Lib.hid (And.intro hs (H4.out.2.trans hk (by simp; have := H1.out.1; omega)))
      clear hs hk
      go_wp2_with fail
      refine (has_any w5 b1 s1 _ H5.out.1 0).mono ?_
      rintro e w6 ⟨rfl, hk⟩
      rw [at2_one]
      have H6 := Lib.hid (H5.out.2.trans hk (by simp))
      clear hk
      by_cases hz : nn - t = 0
      · have hw : whole2 a (nn - t) = (0, 0) := by unfold whole2; rw [if_pos hz]
        rw [hw]
        have q1 : (0 == nn - t) = true := by rw [hz]; rfl
        have q2 : ((0 : Int) == a) = false := beq_eq_false_iff_ne.2 (by omega)
        have q3 : (nn - t == 0) = true := by rw [hz]; rfl
        go_wp2_with (go_at_call 54; refine (works13_any w6).mono ?_; rintro e w7 ⟨rfl, hk7⟩)
        try go_ret
        exact HR.out _ _ ⟨rfl, H6.out.trans hk7 (by simp)⟩
      · have hw : whole2 a (nn - t) = (a, nn - t) := by unfold whole2; rw [if_neg hz]
        rw [hw]
        have q1 : (nn - t == nn - t) = true := by simp
        have q2 : (a == a) = true := by simp
        go_wp2_with (go_at_call 54; refine (works13_any w6).mono ?_; rintro e w7 ⟨rfl, hk7⟩)
        try go_ret
        exact HR.out _ _ ⟨rfl, H6.out.trans hk7 (by simp)⟩
    · have htf : takeB [whole2 a nn] 0 a t = false := by rw [HO.out, decide_eq_false htn]
      rw [takeL_false htf] at hs
      rw [htf]
      have H5 := Lib.hid (And.intro hs (H4.out.2.trans hk (by simp; have := H1.out.1; omega)))
      clear hs hk htf
      go_wp2_with fail
      refine (has_any w5 b1 s1 _ H5.out.1 0).mono ?_
      rintro e w6 ⟨rfl, hk⟩
      rw [at2_one]
      have H6 := Lib.hid (H5.out.2.trans hk (by simp))
      clear hk
      by_cases hz : nn = 0
      · have hw : whole2 a nn = (0, 0) := by unfold whole2; rw [if_pos hz]
        rw [hw]
        have q1 : ((0 : Int) == nn) = true := by rw [hz]; rfl
        have q2 : ((0 : Int) == a) = false := beq_eq_false_iff_ne.2 (by omega)
        have q3 : (nn == 0) = true := by rw [hz]; rfl
        go_wp2_with (go_at_call 54; refine (works13_any w6).mono ?_; rintro e w7 ⟨rfl, hk7⟩)
        try go_ret
        exact HR.out _ _ ⟨rfl, H6.out.trans hk7 (by simp)⟩
      · have hw : whole2 a nn = (a, nn) := by unfold whole2; rw [if_neg hz]
        rw [hw]
        have q1 : (nn == nn) = true := by simp
        have q2 : (a == a) = true := by simp
        go_wp2_with (go_at_call 54; refine (works13_any w6).mono ?_; rintro e w7 ⟨rfl, hk7⟩)
        try go_ret
        exact HR.out _ _ ⟨rfl, H6.out.trans hk7 (by simp)⟩

theorem takes_any (x y n take : Int) (w : World) :
    Calls Try.prog 12 #[.agg #[.int .i64 x, .int .i64 y], .int .i64 n, .int .i64 take] w fun e w' => e = .returned (.bool true) ∧ Below w.heap.size w w' :=
  (takes_keeps x y n take w).mono fun _ _ ⟨he, hk⟩ => ⟨he, hk.below (Nat.le_refl _) (by simp)⟩

end Go.Proofs.Ytlndpljhcempoaa
