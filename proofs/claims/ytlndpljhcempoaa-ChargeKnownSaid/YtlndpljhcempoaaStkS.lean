/- Put of the document's answer for stocks: what each call answers and leaves. Condition: the reference's blocks read as a list of pairs. -/
import Derived.Test.YtlndpljhcempoaaStkR
namespace Go.Proofs.Ytlndpljhcempoaa
open Go.RowKit

set_option maxRecDepth 100000 in
set_option maxHeartbeats 800000 in
theorem rput_any (w : World) (b bs : Nat) (L : List (Int × Int)) (h : StkIs 128 134 w b bs L) (c g n : Int) :
    Calls Try.prog 91 #[.pointer (some ⟨b, 0, none⟩), .int .i64 c, .int .i64 g, .int .i64 n] w
      fun e w' => e = .returned (.tuple #[.int .i64 (putR L c g n).1, .int .i64 (putR L c g n).2, .int .i64 (putE L c g n)]) ∧ StkIs 128 134 w' b bs (putL L c g n) ∧ Keeps [bs] w w' := by
  refine calls_hide fun R HR => ?_
  have hd0 := h.hd.cell (i := 0) rfl
  have hb0 := h.hd.lt
  have hlen := h.len
  cases hc : okC L c with
  | false =>
    obtain ⟨q1, q2, q3⟩ := put_range L c g n hc
    rw [q1, q2, q3] at HR
    have HC := Lib.hid hc
    clear hc q1 q2 q3
    go_enter Try.func91, Try.ntmps91
    go_wp2_with (go_at_call 94; refine (rhas2_any w b bs L h c).mono ?_; rintro e w' ⟨rfl, rfl⟩; rw [HC.out])
    try go_ret3
    exact HR.out _ _ ⟨rfl, h, Keeps.refl _ _⟩
  | true =>
    by_cases hg : g < 1 ∨ 16 < g
    · obtain ⟨q1, q2, q3⟩ := put_group L c g n hc hg
      rw [q1, q2, q3] at HR
      obtain ⟨k, rfl, hk⟩ := okC_true hc
      have HC := Lib.hid hc
      clear hc q1 q2 q3
      by_cases hg1 : g < 1
      · clear hg
        go_enter Try.func91, Try.ntmps91
        go_wp2_with (go_at_call 94; refine (rhas2_any w b bs L h k).mono ?_; rintro e w' ⟨rfl, rfl⟩; rw [HC.out])
        try go_ret3
        exact HR.out _ _ ⟨rfl, h, Keeps.refl _ _⟩
      · have hg2 : 16 < g := by omega
        clear hg
        go_enter Try.func91, Try.ntmps91
        go_wp2_with (go_at_call 94; refine (rhas2_any w b bs L h k).mono ?_; rintro e w' ⟨rfl, rfl⟩; rw [HC.out])
        try go_ret3
        exact HR.out _ _ ⟨rfl, h, Keeps.refl _ _⟩
    · have hg1 : 1 ≤ g ∧ g ≤ 16 := by omega
      clear hg
      by_cases hn : n < 0 ∨ 9007199254740991 < n
      · obtain ⟨q1, q2, q3⟩ := put_arg L c g n hc hg1 hn
        rw [q1, q2, q3] at HR
        obtain ⟨k, rfl, hk⟩ := okC_true hc
        obtain ⟨hga, hgb⟩ := hg1
        have HC := Lib.hid hc
        clear hc q1 q2 q3
        by_cases hn1 : n < 0
        · clear hn
          go_enter Try.func91, Try.ntmps91
          go_wp2_with (go_at_call 94; refine (rhas2_any w b bs L h k).mono ?_; rintro e w' ⟨rfl, rfl⟩; rw [HC.out])
          try go_ret3
          exact HR.out _ _ ⟨rfl, h, Keeps.refl _ _⟩
        · have hn2 : 9007199254740991 < n := by omega
          clear hn
          go_enter Try.func91, Try.ntmps91
          go_wp2_with (go_at_call 94; refine (rhas2_any w b bs L h k).mono ?_; rintro e w' ⟨rfl, rfl⟩; rw [HC.out])
          try go_ret3
          exact HR.out _ _ ⟨rfl, h, Keeps.refl _ _⟩
      · have hn1 : 0 ≤ n ∧ n ≤ 9007199254740991 := by omega
        clear hn
        obtain ⟨k, rfl, hk⟩ := okC_true hc
        have HC := Lib.hid hc
        clear hc
        have c0 := h.el.cell (stc_get0 L k hk)
        have c1 := h.el.cell (stc_get1 L k hk)
        have hbs := h.el.lt
        have hf := h.at hk
        have HP := fun pg pn (hp : L.getD k (0, 0) = (pg, pn)) => And.intro (put_other_bad L k g n pg pn hk hp hg1 hn1) (And.intro (put_other L k g n pg pn hk hp hg1) (And.intro (put_same_over L k g n pg pn hk hp hg1 hn1) (put_same L k g n pg pn hk hp hg1 hn1)))
        generalize L.getD k (0, 0) = p at *
        obtain ⟨pg, pn⟩ := p
        obtain ⟨P1, P2, P3, P4⟩ := HP pg pn rfl
        clear HP
        obtain ⟨p1, p2, p3, p4⟩ := hf
        dsimp only at p1 p2 p3 p4 c0 c1
        obtain ⟨hga, hgb⟩ := hg1
        obtain ⟨hna, hnb⟩ := hn1
        have hwg : ∀ x : Int, 0 ≤ x ∧ x ≤ 1024 → Fine (whole2 g x) := fun x hx => Fine.whole ⟨hga, hgb⟩ hx
        have HW := Lib.hid hwg
        clear hwg
        have hka := (Keeps.refl [bs] w).alloc (.cells #[.int .i64 pg, .int .i64 pn] 134)
        have hs := h.keeps ((Keeps.refl [] w).alloc (.cells #[.int .i64 pg, .int .i64 pn] 134)) (by simp) (by simp)
        by_cases h0 : pn = 0
        · have l0 : pn ≤ 0 := by omega
          have HX : Hid (¬ (0 < pn ∧ pg ≠ g)) := Lib.hid (fun hx => absurd hx.1 (by omega))
          clear P1 P2 p3 p4 h0
          by_cases hb : 1024 < pn + n
          · obtain ⟨q1, q2, q3⟩ := P3 HX.out hb
            rw [q1, q2, q3] at HR
            clear q1 q2 q3 P3 P4
            go_enter Try.func91, Try.ntmps91
            go_wp2_with (go_at_call 94; refine (rhas2_any w b bs L h k).mono ?_; rintro e w' ⟨rfl, rfl⟩; rw [HC.out])
            refine (rset_any _ b bs L hs k hk g 512 (HW.out 512 (by omega))).mono ?_
            rintro e w1 ⟨rfl, hs1, hk1⟩
            have HS := Lib.hid (And.intro hs1 (hka.trans hk1 (by simp)))
            clear hs1 hk1 c0 c1 hka hs
            go_wp2
            try go_ret3
            exact HR.out _ _ ⟨rfl, HS.out.1, HS.out.2⟩
          · have hb1 : pn + n ≤ 1024 := by omega
            obtain ⟨q1, q2, q3⟩ := P4 HX.out hb1
            rw [q1, q2, q3] at HR
            clear q1 q2 q3 P3 P4 hb
            go_enter Try.func91, Try.ntmps91
            go_wp2_with (go_at_call 94; refine (rhas2_any w b bs L h k).mono ?_; rintro e w' ⟨rfl, rfl⟩; rw [HC.out])
            refine (rset_any _ b bs L hs k hk g (pn + n) (HW.out _ (by omega))).mono ?_
            rintro e w1 ⟨rfl, hs1, hk1⟩
            have HS := Lib.hid (And.intro hs1 (hka.trans hk1 (by simp)))
            clear hs1 hk1 c0 c1 hka hs
            go_wp2
            try go_ret3
            exact HR.out _ _ ⟨rfl, HS.out.1, HS.out.2⟩
        · obtain ⟨p5, p6⟩ := p4 (by omega)
          have l0 : 0 < pn := by omega
          clear p3 p4 h0
          by_cases hpg : pg = g
          · have e2 : (pg != g) = false := by simp [hpg]
            have HX : Hid (¬ (0 < pn ∧ pg ≠ g)) := Lib.hid (fun hx => absurd hpg hx.2)
            clear P1 P2 hpg
            by_cases hb : 1024 < pn + n
            · obtain ⟨q1, q2, q3⟩ := P3 HX.out hb
              rw [q1, q2, q3] at HR
              clear q1 q2 q3 P3 P4
              go_enter Try.func91, Try.ntmps91
              go_wp2_with (go_at_call 94; refine (rhas2_any w b bs L h k).mono ?_; rintro e w' ⟨rfl, rfl⟩; rw [HC.out])
              refine (rset_any _ b bs L hs k hk g 512 (HW.out 512 (by omega))).mono ?_
              rintro e w1 ⟨rfl, hs1, hk1⟩
              have HS := Lib.hid (And.intro hs1 (hka.trans hk1 (by simp)))
              clear hs1 hk1 c0 c1 hka hs
              go_wp2
              try go_ret3
              exact HR.out _ _ ⟨rfl, HS.out.1, HS.out.2⟩
            · have hb1 : pn + n ≤ 1024 := by omega
              obtain ⟨q1, q2, q3⟩ := P4 HX.out hb1
              rw [q1, q2, q3] at HR
              clear q1 q2 q3 P3 P4 hb
              go_enter Try.func91, Try.ntmps91
              go_wp2_with (go_at_call 94; refine (rhas2_any w b bs L h k).mono ?_; rintro e w' ⟨rfl, rfl⟩; rw [HC.out])
              refine (rset_any _ b bs L hs k hk g (pn + n) (HW.out _ (by omega))).mono ?_
              rintro e w1 ⟨rfl, hs1, hk1⟩
              have HS := Lib.hid (And.intro hs1 (hka.trans hk1 (by simp)))
              clear hs1 hk1 c0 c1 hka hs
              go_wp2
              try go_ret3
              exact HR.out _ _ ⟨rfl, HS.out.1, HS.out.2⟩
          · have e2 : (pg != g) = true := by simp [hpg]
            clear P3 P4
            by_cases hb : 1024 < n
            · obtain ⟨q1, q2, q3⟩ := P1 l0 hpg hb
              rw [q1, q2, q3] at HR
              clear q1 q2 q3 P1 P2 hpg
              go_enter Try.func91, Try.ntmps91
              go_wp2_with (go_at_call 94; refine (rhas2_any w b bs L h k).mono ?_; rintro e w' ⟨rfl, rfl⟩; rw [HC.out])
              try go_ret3
              exact HR.out _ _ ⟨rfl, hs, hka⟩
            · have hb1 : n ≤ 1024 := by omega
              obtain ⟨q1, q2, q3⟩ := P2 ⟨hna, hb1⟩ l0 hpg
              rw [q1, q2, q3] at HR
              clear q1 q2 q3 P1 P2 hb hpg
              go_enter Try.func91, Try.ntmps91
              go_wp2_with (go_at_call 94; refine (rhas2_any w b bs L h k).mono ?_; rintro e w' ⟨rfl, rfl⟩; rw [HC.out])
              refine (rset_any _ b bs L hs k hk g n (HW.out _ ⟨hna, hb1⟩)).mono ?_
              rintro e w1 ⟨rfl, hs1, hk1⟩
              have ho := hk1.row (Row.new w [.int .i64 pg, .int .i64 pn] 134) (by simp; omega)
              have o0 := ho.cell (i := 0) rfl
              have o1 := ho.cell (i := 1) rfl
              have HS := Lib.hid (And.intro hs1 (hka.trans hk1 (by simp)))
              clear hs1 hk1 c0 c1 ho hka hs
              go_wp2
              go_quiet (fail)
              go_wp2
              try go_ret3
              exact HR.out _ _ ⟨rfl, HS.out.1.drewN _, HS.out.2.drewN _⟩

end Go.Proofs.Ytlndpljhcempoaa
