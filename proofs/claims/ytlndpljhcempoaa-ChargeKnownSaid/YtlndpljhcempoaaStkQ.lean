/- Take and Put of the package stock: what each call answers and leaves. Condition: the stock's blocks read as a list of pairs. -/
import Derived.Test.YtlndpljhcempoaaStkP
namespace Go.Proofs.Ytlndpljhcempoaa
open Go.RowKit

set_option maxRecDepth 100000 in
set_option maxHeartbeats 400000 in
theorem take_any (w : World) (b bs : Nat) (L : List (Int × Int)) (h : StkIs 93 132 w b bs L) (c g n : Int) :
    Calls Try.prog 55 #[.pointer (some ⟨b, 0, none⟩), .int .i64 c, .int .i64 g, .int .i64 n] w fun e w' => e = .returned (.bool (takeB L c g n)) ∧ StkIs 93 132 w' b bs (takeL L c g n) ∧ Keeps [bs] w w' := by
  refine calls_hide fun R HR => ?_
  cases hc : okC L c with
  | false =>
    have ht : takeB L c g n = false := by simp [takeB, hc]
    have hl : takeL L c g n = L := by simp [takeL, ht]
    rw [ht, hl] at HR
    have HC := Lib.hid hc
    clear hc ht hl
    go_enter Try.func55, Try.ntmps55
    go_wp2_with (go_at_call 93; refine (of_bad w b bs L h c HC.out).mono ?_; rintro e w' ⟨rfl, rfl⟩)
    try go_ret
    exact HR.out _ _ ⟨rfl, h, Keeps.refl _ _⟩
  | true =>
    obtain ⟨k, rfl, hk⟩ := okC_true hc
    have ha := at2_nat hk
    have c0 := h.el.cell (stc_get0 L k hk)
    have c1 := h.el.cell (stc_get1 L k hk)
    have f0 := h.el.free (k * 2)
    have f1 := h.el.free (k * 2 + 1)
    have hbs := h.el.lt
    have hf := h.at hk
    have ht : takeB L k g n = (decide (1 ≤ n) && (decide (n ≤ (L.getD k (0, 0)).2) && decide ((L.getD k (0, 0)).1 = g))) := by simp only [takeB, hc, ha, Bool.true_and]
    have hl : takeL L k g n = if takeB L k g n then L.set k (whole2 g ((L.getD k (0, 0)).2 - n)) else L := by simp only [takeL, ha, Int.toNat_natCast]
    rw [hl, ht] at HR
    generalize L.getD k (0, 0) = p at *
    obtain ⟨pg, pn⟩ := p
    have HF := Lib.hid hf
    obtain ⟨p1, p2, _, _⟩ := hf
    dsimp only at HR p1 p2 c0 c1
    clear hc ht hl ha
    by_cases h1 : 1 ≤ n
    · by_cases h2 : n ≤ pn
      · by_cases h3 : pg = g
        · have hgb : (pg != g) = false := by simp [h3]
          have HG := Lib.hid h3
          rw [decide_eq_true h1, decide_eq_true h2, decide_eq_true h3] at HR
          clear h3
          go_enter Try.func55, Try.ntmps55
          go_wp2_with (go_at_call 93; refine (of_ok w b bs L h k hk).mono ?_; rintro e w' ⟨rfl, rfl⟩)
          refine (whole_any w g (pn - n)).mono ?_
          rintro e w1 ⟨rfl, hk1⟩
          have d0 := (hk1.cell (p := ⟨bs, k * 2, none⟩) hbs (by simp)).trans c0
          have d1 := (hk1.cell (p := ⟨bs, k * 2 + 1, none⟩) hbs (by simp)).trans c1
          have hs1 := h.keeps hk1 (by simp) (by simp)
          have e0 := hs1.el.free (k * 2)
          have e1 := hs1.el.free (k * 2 + 1)
          have hfin : Fine (whole2 g (pn - n)) := by
            have hF := HF.out
            obtain ⟨_, _, _, q4⟩ := hF
            have q5 := q4 (show (0 : Int) < pn by omega)
            have q6 := HG.out
            dsimp only at q5
            exact Fine.whole (by omega) (by omega)
          generalize whole2 g (pn - n) = q at *
          obtain ⟨qg, qn⟩ := q
          have HS := Lib.hid (And.intro hs1 (And.intro hk1 hfin))
          clear hs1 hk1 hfin c0 c1
          go_wp2
          try go_ret
          exact HR.out _ _ ⟨rfl, HS.out.1.put k HS.out.2.2, ((HS.out.2.1.wider (by simp)).set (by simp) _).set (by simp) _⟩
        · have hgb : (pg != g) = true := by simp [h3]
          rw [decide_eq_true h1, decide_eq_true h2, decide_eq_false h3] at HR
          clear h3
          go_enter Try.func55, Try.ntmps55
          go_wp2_with (go_at_call 93; refine (of_ok w b bs L h k hk).mono ?_; rintro e w' ⟨rfl, rfl⟩)
          try go_ret
          exact HR.out _ _ ⟨rfl, h, Keeps.refl _ _⟩
      · rw [decide_eq_true h1, decide_eq_false h2] at HR
        go_enter Try.func55, Try.ntmps55
        go_wp2_with (go_at_call 93; refine (of_ok w b bs L h k hk).mono ?_; rintro e w' ⟨rfl, rfl⟩)
        try go_ret
        exact HR.out _ _ ⟨rfl, h, Keeps.refl _ _⟩
    · rw [decide_eq_false h1] at HR
      go_enter Try.func55, Try.ntmps55
      go_wp2_with (go_at_call 93; refine (of_ok w b bs L h k hk).mono ?_; rintro e w' ⟨rfl, rfl⟩)
      try go_ret
      exact HR.out _ _ ⟨rfl, h, Keeps.refl _ _⟩

set_option maxRecDepth 100000 in
set_option maxHeartbeats 400000 in
theorem take_none (w : World) (v : Value) (h : NoStk w v) (c g n : Int) :
    Calls Try.prog 55 #[v, .int .i64 c, .int .i64 g, .int .i64 n] w fun e w' => e = .returned (.bool false) ∧ Keeps [] w w' := by
  refine calls_hide fun R HR => ?_
  go_enter Try.func55, Try.ntmps55
  go_wp2_with (go_at_call 93; refine (of_none w v h c).mono ?_; rintro e w' ⟨rfl, rfl⟩)
  try go_ret
  exact HR.out _ _ ⟨rfl, Keeps.refl _ _⟩

set_option maxRecDepth 100000 in
set_option maxHeartbeats 400000 in
theorem put_none (w : World) (v : Value) (h : NoStk w v) (c g n : Int) :
    Calls Try.prog 56 #[v, .int .i64 c, .int .i64 g, .int .i64 n] w fun e w' => e = .returned (.tuple #[.int .i64 0, .int .i64 0, .int .i64 1]) ∧ Keeps [] w w' := by
  rcases h with rfl | ⟨b, rfl, hr⟩
  · go_enter Try.func56, Try.ntmps56
    go_wp2
    go_ret3
    exact ⟨rfl, Keeps.refl _ _⟩
  · have c0 := hr.cell (i := 0) rfl
    clear hr
    go_enter Try.func56, Try.ntmps56
    go_wp2
    go_ret3
    exact ⟨rfl, Keeps.refl _ _⟩

set_option maxRecDepth 100000 in
set_option maxHeartbeats 800000 in
theorem put_any (w : World) (b bs : Nat) (L : List (Int × Int)) (h : StkIs 93 132 w b bs L) (c g n : Int) :
    Calls Try.prog 56 #[.pointer (some ⟨b, 0, none⟩), .int .i64 c, .int .i64 g, .int .i64 n] w
      fun e w' => e = .returned (.tuple #[.int .i64 (putR L c g n).1, .int .i64 (putR L c g n).2, .int .i64 (putE L c g n)]) ∧ StkIs 93 132 w' b bs (putL L c g n) ∧ Keeps [bs] w w' := by
  refine calls_hide fun R HR => ?_
  have hd0 := h.hd.cell (i := 0) rfl
  have hlp : ((L.length : Int) == 0) = false := by have := h.pos; simp; intro e; simp [e] at this
  cases hc : okC L c with
  | false =>
    obtain ⟨q1, q2, q3⟩ := put_range L c g n hc
    rw [q1, q2, q3] at HR
    have HC := Lib.hid hc
    clear hc q1 q2 q3
    go_enter Try.func56, Try.ntmps56
    go_wp2_with (go_at_call 93; refine (of_bad w b bs L h c HC.out).mono ?_; rintro e w' ⟨rfl, rfl⟩)
    try go_ret3
    exact HR.out _ _ ⟨rfl, h, Keeps.refl _ _⟩
  | true =>
    by_cases hg : g < 1 ∨ 16 < g
    · obtain ⟨q1, q2, q3⟩ := put_group L c g n hc hg
      rw [q1, q2, q3] at HR
      obtain ⟨k, rfl, hk⟩ := okC_true hc
      clear hc q1 q2 q3
      by_cases hg1 : g < 1
      · clear hg
        go_enter Try.func56, Try.ntmps56
        go_wp2_with (go_at_call 93; refine (of_ok w b bs L h k hk).mono ?_; rintro e w' ⟨rfl, rfl⟩)
        try go_ret3
        exact HR.out _ _ ⟨rfl, h, Keeps.refl _ _⟩
      · have hg2 : 16 < g := by omega
        clear hg
        go_enter Try.func56, Try.ntmps56
        go_wp2_with (go_at_call 93; refine (of_ok w b bs L h k hk).mono ?_; rintro e w' ⟨rfl, rfl⟩)
        try go_ret3
        exact HR.out _ _ ⟨rfl, h, Keeps.refl _ _⟩
    · have hg1 : 1 ≤ g ∧ g ≤ 16 := by omega
      clear hg
      by_cases hn : n < 0 ∨ 9007199254740991 < n
      · obtain ⟨q1, q2, q3⟩ := put_arg L c g n hc hg1 hn
        rw [q1, q2, q3] at HR
        obtain ⟨k, rfl, hk⟩ := okC_true hc
        obtain ⟨hga, hgb⟩ := hg1
        clear hc q1 q2 q3
        by_cases hn1 : n < 0
        · clear hn
          go_enter Try.func56, Try.ntmps56
          go_wp2_with (go_at_call 93; refine (of_ok w b bs L h k hk).mono ?_; rintro e w' ⟨rfl, rfl⟩)
          try go_ret3
          exact HR.out _ _ ⟨rfl, h, Keeps.refl _ _⟩
        · have hn2 : 9007199254740991 < n := by omega
          clear hn
          go_enter Try.func56, Try.ntmps56
          go_wp2_with (go_at_call 93; refine (of_ok w b bs L h k hk).mono ?_; rintro e w' ⟨rfl, rfl⟩)
          try go_ret3
          exact HR.out _ _ ⟨rfl, h, Keeps.refl _ _⟩
      · have hn1 : 0 ≤ n ∧ n ≤ 9007199254740991 := by omega
        clear hn
        obtain ⟨k, rfl, hk⟩ := okC_true hc
        clear hc
        have c0 := h.el.cell (stc_get0 L k hk)
        have c1 := h.el.cell (stc_get1 L k hk)
        have f0 := h.el.free (k * 2)
        have f1 := h.el.free (k * 2 + 1)
        have hbs := h.el.lt
        have hf := h.at hk
        have HP := fun pg pn (hp : L.getD k (0, 0) = (pg, pn)) => And.intro (put_other_bad L k g n pg pn hk hp hg1 hn1) (And.intro (put_other L k g n pg pn hk hp hg1) (And.intro (put_same_over L k g n pg pn hk hp hg1 hn1) (put_same L k g n pg pn hk hp hg1 hn1)))
        generalize L.getD k (0, 0) = p at *
        obtain ⟨pg, pn⟩ := p
        obtain ⟨P1, P2, P3, P4⟩ := HP pg pn rfl
        clear HP
        obtain ⟨p1, p2, p3, p4⟩ := hf
        dsimp only at p1 p2 p3 p4 c0 c1
        obtain ⟨hga, hgb⟩ := hg1
        obtain ⟨hna, hnb⟩ := hn1
        have hwg : ∀ x : Int, 0 ≤ x ∧ x ≤ 1024 → Fine (whole2 g x) := fun x hx => Fine.whole ⟨hga, hgb⟩ hx
        have HW := Lib.hid hwg
        clear hwg
        by_cases h0 : pn = 0
        · have h00 := p3 h0
          have e0 : (pn == 0) = true := beq_iff_eq.2 h0
          have e1 : (pg == 0) = true := beq_iff_eq.2 h00
          have l0 : pn ≤ 0 := by omega
          have HX : Hid (¬ (0 < pn ∧ pg ≠ g)) := Lib.hid (fun hx => absurd hx.1 (by omega))
          clear P1 P2 p3 p4 h0 h00
          by_cases hb : 1024 < pn + n
          · obtain ⟨q1, q2, q3⟩ := P3 HX.out hb
            rw [q1, q2, q3] at HR
            clear q1 q2 q3 P3 P4
            go_enter Try.func56, Try.ntmps56
            go_wp2_with (go_at_call 93; refine (of_ok w b bs L h k hk).mono ?_; rintro e w' ⟨rfl, rfl⟩)
            try go_ret3
            exact HR.out _ _ ⟨rfl, (h.put k ⟨by simp, by simp, fun h => by simp at h, fun _ => ⟨hga, hgb⟩⟩).keeps ((Keeps.refl [] _).alloc _) (by simp) (by simp), (((Keeps.refl _ _).set (by simp) _).set (by simp) _).alloc _⟩
          · have hb1 : pn + n ≤ 1024 := by omega
            obtain ⟨q1, q2, q3⟩ := P4 HX.out hb1
            rw [q1, q2, q3] at HR
            clear q1 q2 q3 P3 P4 hb
            go_enter Try.func56, Try.ntmps56
            go_wp2_with (go_at_call 93; refine (of_ok w b bs L h k hk).mono ?_; rintro e w' ⟨rfl, rfl⟩)
            refine (whole_any _ g (pn + n)).mono ?_
            rintro e w1 ⟨rfl, hk1⟩
            have hka := ((Keeps.refl [] w).alloc (.cells #[.int .i64 pg, .int .i64 pn] 132)).trans hk1 (by simp)
            have hs1 := h.keeps hka (by simp) (by simp)
            have g0 := hs1.el.free (k * 2)
            have g1 := hs1.el.free (k * 2 + 1)
            have d0 := hs1.el.cell (stc_get0 L k hk)
            have d1 := hs1.el.cell (stc_get1 L k hk)
            have hfin := HW.out (pn + n) (by omega)
            generalize whole2 g (pn + n) = q at *
            obtain ⟨qg, qn⟩ := q
            have HS := Lib.hid (And.intro hs1 (And.intro hka hfin))
            clear hs1 hk1 hka hfin c0 c1
            go_wp2
            try go_ret3
            exact HR.out _ _ ⟨rfl, HS.out.1.put k HS.out.2.2, ((HS.out.2.1.wider (by simp)).set (by simp) _).set (by simp) _⟩
        · obtain ⟨p5, p6⟩ := p4 (by omega)
          have l0 : 0 < pn := by omega
          have e0 : (pn == 0) = false := beq_eq_false_iff_ne.2 h0
          have e1 : (pg == 0) = false := beq_eq_false_iff_ne.2 (by omega)
          clear p3 p4 h0
          by_cases hpg : pg = g
          · have e2 : (pg != g) = false := by simp [hpg]
            have HX : Hid (¬ (0 < pn ∧ pg ≠ g)) := Lib.hid (fun hx => absurd hpg hx.2)
            clear P1 P2 hpg
            by_cases hb : 1024 < pn + n
            · obtain ⟨q1, q2, q3⟩ := P3 HX.out hb
              rw [q1, q2, q3] at HR
              clear q1 q2 q3 P3 P4
              go_enter Try.func56, Try.ntmps56
              go_wp2_with (go_at_call 93; refine (of_ok w b bs L h k hk).mono ?_; rintro e w' ⟨rfl, rfl⟩)
              try go_ret3
              exact HR.out _ _ ⟨rfl, (h.put k ⟨by simp, by simp, fun h => by simp at h, fun _ => ⟨hga, hgb⟩⟩).keeps ((Keeps.refl [] _).alloc _) (by simp) (by simp), (((Keeps.refl _ _).set (by simp) _).set (by simp) _).alloc _⟩
            · have hb1 : pn + n ≤ 1024 := by omega
              obtain ⟨q1, q2, q3⟩ := P4 HX.out hb1
              rw [q1, q2, q3] at HR
              clear q1 q2 q3 P3 P4 hb
              go_enter Try.func56, Try.ntmps56
              go_wp2_with (go_at_call 93; refine (of_ok w b bs L h k hk).mono ?_; rintro e w' ⟨rfl, rfl⟩)
              refine (whole_any _ g (pn + n)).mono ?_
              rintro e w1 ⟨rfl, hk1⟩
              have hka := ((Keeps.refl [] w).alloc (.cells #[.int .i64 pg, .int .i64 pn] 132)).trans hk1 (by simp)
              have hs1 := h.keeps hka (by simp) (by simp)
              have g0 := hs1.el.free (k * 2)
              have g1 := hs1.el.free (k * 2 + 1)
              have d0 := hs1.el.cell (stc_get0 L k hk)
              have d1 := hs1.el.cell (stc_get1 L k hk)
              have hfin := HW.out (pn + n) (by omega)
              generalize whole2 g (pn + n) = q at *
              obtain ⟨qg, qn⟩ := q
              have HS := Lib.hid (And.intro hs1 (And.intro hka hfin))
              clear hs1 hk1 hka hfin c0 c1
              go_wp2
              try go_ret3
              exact HR.out _ _ ⟨rfl, HS.out.1.put k HS.out.2.2, ((HS.out.2.1.wider (by simp)).set (by simp) _).set (by simp) _⟩
          · have e2 : (pg != g) = true := by simp [hpg]
            clear P3 P4
            by_cases hb : 1024 < n
            · obtain ⟨q1, q2, q3⟩ := P1 l0 hpg hb
              rw [q1, q2, q3] at HR
              clear q1 q2 q3 P1 P2 hpg
              go_enter Try.func56, Try.ntmps56
              go_wp2_with (go_at_call 93; refine (of_ok w b bs L h k hk).mono ?_; rintro e w' ⟨rfl, rfl⟩)
              try go_ret3
              exact HR.out _ _ ⟨rfl, h.keeps ((Keeps.refl [] _).alloc _) (by simp) (by simp), (Keeps.refl _ _).alloc _⟩
            · have hb1 : n ≤ 1024 := by omega
              obtain ⟨q1, q2, q3⟩ := P2 ⟨hna, hb1⟩ l0 hpg
              rw [q1, q2, q3] at HR
              clear q1 q2 q3 P1 P2 hb hpg
              go_enter Try.func56, Try.ntmps56
              go_wp2_with (go_at_call 93; refine (of_ok w b bs L h k hk).mono ?_; rintro e w' ⟨rfl, rfl⟩)
              refine (whole_any _ g n).mono ?_
              rintro e w1 ⟨rfl, hk1⟩
              have hka := ((Keeps.refl [] w).alloc (.cells #[.int .i64 pg, .int .i64 pn] 132)).trans hk1 (by simp)
              have hs1 := h.keeps hka (by simp) (by simp)
              have g0 := hs1.el.free (k * 2)
              have g1 := hs1.el.free (k * 2 + 1)
              have d0 := hs1.el.cell (stc_get0 L k hk)
              have d1 := hs1.el.cell (stc_get1 L k hk)
              have ho := hk1.row (Row.new w [.int .i64 pg, .int .i64 pn] 132) (by simp)
              have o0 := ho.cell (i := 0) rfl
              have o1 := ho.cell (i := 1) rfl
              have hfin := HW.out n ⟨hna, hb1⟩
              generalize whole2 g n = q at *
              obtain ⟨qg, qn⟩ := q
              have HS := Lib.hid (And.intro hs1 (And.intro hka hfin))
              clear hs1 hk1 hka hfin c0 c1 ho
              go_wp2
              go_quiet (fail)
              go_wp2
              try go_ret3
              exact HR.out _ _ ⟨rfl, (HS.out.1.put k HS.out.2.2).drewN _, (((HS.out.2.1.wider (by simp)).set (by simp) _).set (by simp) _).drewN _⟩

end Go.Proofs.Ytlndpljhcempoaa
