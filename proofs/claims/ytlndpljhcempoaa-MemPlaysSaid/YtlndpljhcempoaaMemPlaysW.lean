/- MemPlays, the walk: what a memory answers, access by access, is the document's. Condition: the list is read as accesses. -/
import Derived.Test.YtlndpljhcempoaaMemStepW
namespace Go.Proofs.Ytlndpljhcempoaa
open Go.RowKit

set_option maxRecDepth 100000 in
set_option maxHeartbeats 1600000 in
theorem plays3_bad (n : Int) (a : Option Addr) (len cap : Nat) (w : World) (hn : n < 1 ∨ 4096 < n) :
    Calls Try.prog 6 #[.int .i64 n, .slice a len cap] w fun e w' => e = .returned (.bool true) ∧ Keeps [] w w' := by
  refine calls_hide fun R HR => ?_
  have HN := Lib.hid hn
  clear hn
  go_enter Try.func6, Try.ntmps6
  go_wp2_with fail
  refine (new_bad w n HN.out).mono ?_
  rintro e w1 ⟨rfl, rfl⟩
  go_wp2_with fail
  refine (rnew_bad w n HN.out).mono ?_
  rintro e w1 ⟨rfl, rfl⟩
  go_wp2_with (go_at_call 21; refine (works3_any w).mono ?_; rintro e w3 ⟨rfl, hk3⟩)
  try go_ret
  exact HR.out _ _ ⟨rfl, hk3⟩

set_option maxRecDepth 100000 in
set_option maxHeartbeats 1600000 in
theorem plays3_good (n : Nat) (a : Option Addr) (len cap : Nat) (w : World) (hz : IsElems w a len cap 6 Good3) (h1 : 1 ≤ n) (h2 : n ≤ 4096) :
    Calls Try.prog 6 #[.int .i64 n, .slice a len cap] w fun e w' => e = .returned (.bool true) ∧ Keeps [] w w' := by
  refine calls_hide fun R HR => ?_
  have hlen := hz.len_le
  have HZ := Lib.hid hz
  clear hz
  go_enter Try.func6, Try.ntmps6
  go_wp2_with fail
  refine (new_ok w n h1 h2).mono ?_
  rintro e w1 ⟨rfl, hm, hk⟩
  obtain ⟨bm, hbm⟩ : ∃ bm, bm = w.heap.size + 1 := ⟨_, rfl⟩
  obtain ⟨bw, hbw⟩ : ∃ bw, bw = w.heap.size := ⟨_, rfl⟩
  rw [← hbm, ← hbw] at hm
  rw [← hbm]
  have H1 := Lib.hid (And.intro (And.intro hbm hbw) (And.intro hm hk))
  clear hbm hbw hk hm
  go_wp2_with fail
  refine (rnew_ok w1 n h1 h2).mono ?_
  rintro e w2 ⟨rfl, hr, hk2⟩
  have hx1 := H1.out.2.1.hd.lt
  have hx2 := H1.out.2.1.wr.lt
  have hm2 := H1.out.2.1.keeps hk2 (by simp) (by simp)
  have hb2 : Both w2 bm bw (w1.heap.size + 1) w1.heap.size (List.replicate n 0) 0 := ⟨hm2, hr, by omega, by omega, by omega, by omega⟩
  obtain ⟨rm, hrm⟩ : ∃ rm, rm = w1.heap.size + 1 := ⟨_, rfl⟩
  obtain ⟨rw_, hrw⟩ : ∃ rw_, rw_ = w1.heap.size := ⟨_, rfl⟩
  rw [← hrm, ← hrw] at hb2
  rw [← hrm]
  have hsz := H1.out.2.2.size
  have hge : w.heap.size ≤ bm ∧ w.heap.size ≤ bw ∧ w.heap.size ≤ rm ∧ w.heap.size ≤ rw_ := by have := H1.out.1; omega
  have H2 := Lib.hid (And.intro hge (And.intro hb2 (H1.out.2.2.trans hk2 (by simp))))
  clear hrm hrw hk2 hr hm2 hb2 hge hx1 hx2 hsz H1
  go_wp2_with fail
  go_loopw [9] (fun i wr => ∃ (j : Nat) (ws : List Int) (c : Int), j ≤ len ∧ j ≤ 80 ∧ i = .int .i64 j ∧ ws.length = n ∧ Both wr bm bw rm rw_ ws c ∧ Keeps [] w wr) (fun i _ => len - (intOf i).toNat)
  case atStart => exact ⟨0, _, 0, by omega, by omega, rfl, by simp, H2.out.2.1, H2.out.2.2⟩
  case round =>
    obtain ⟨j, ws, c, hj, hj4, rfl, hws, hb, hkr⟩ := hrel
    have HM := Lib.hid (And.intro hb (And.intro hkr hws))
    clear hb hkr hws
    by_cases hin : j < len ∧ j < 80
    · obtain ⟨hlt, hlt4⟩ := hin
      obtain ⟨b, off, kd, pl, A, B, C, D, ha, hb, hdo⟩ := HZ.out.three hlt
      subst ha
      obtain ⟨c0, c1, c2, c3, c4, c5⟩ := hdo.keeps HM.out.2.1 hb (by simp)
      clear hdo
      go_wp2_with fail
      refine (step3_any wr bm bw rm rw_ ws c kd pl A B C D HM.out.1 (by have := HM.out.2.2; omega)).mono ?_
      rintro e w3 ⟨rfl, ws', c', hb3, hl3, hk3⟩
      have H3 := Lib.hid (And.intro hb3 (And.intro (HM.out.2.1.trans hk3 (by simp; have := H2.out.1; omega)) (hl3.trans HM.out.2.2)))
      clear hb3 hl3 hk3 c0 c1 c2 c3 c4 c5
      go_wp2_with fail
      refine (count_any w3 bm bw ws' c' H3.out.1.m).mono ?_
      rintro e w4 ⟨rfl, rfl⟩
      go_wp2_with fail
      refine (rcount_any w3 rm rw_ ws' c' H3.out.1.r).mono ?_
      rintro e w4 ⟨rfl, rfl⟩
      have hcc : (c' != c') = false := by simp
      go_wp2_with fail
      refine (len_any w3 bm bw ws' c' H3.out.1.m).mono ?_
      rintro e w4 ⟨rfl, rfl⟩
      rw [H3.out.2.2]
      have hnn : ((n : Int) != (n : Int)) = false := by simp
      go_wp2
      go_roundw
      case rel => exact ⟨j + 1, ws', c', by omega, by omega, by go_num, H3.out.2.2, H3.out.1, H3.out.2.1⟩
      case measure => simp [intOf]; omega
    · by_cases hlt : j < len
      · have h40 : 80 ≤ j := by omega
        clear hin
        go_wp2_with fail
        refine (words_any wr bm bw ws c HM.out.1.m (by have := HM.out.2.2; omega)).mono ?_
        rintro e w1 ⟨v, rfl, ⟨g, cp, rest, rfl, hg, hrow⟩, hk⟩
        have H3 := Lib.hid (And.intro (HM.out.1.keeps hk (by simp) (by simp) (by simp) (by simp)) (And.intro hk hrow))
        clear hk hrow hg
        go_wp2_with fail
        refine (rwords_any _ rm rw_ ws c H3.out.1.r (by have := HM.out.2.2; omega)).mono ?_
        rintro e w3 ⟨v, rfl, ⟨g2, cp2, rest2, rfl, hg2, hrow2⟩, hk2⟩
        have H4 := Lib.hid (And.intro hk2 (And.intro (hk2.row H3.out.2.2 (by simp)) hrow2))
        clear hk2 hrow2 hg2
        go_wp2_with fail
        refine (eqwords_any _ ws g g2 cp cp2 rest rest2 H4.out.2.1 H4.out.2.2 HM.out.1.m.len).mono ?_
        rintro e w4 ⟨rfl, nq, rfl⟩
        go_wp2_with fail
        refine (works3_any _).mono ?_
        rintro e w5 ⟨rfl, hk5⟩
        go_wp2
        try go_ret
        exact HR.out _ _ ⟨rfl, (((HM.out.2.1.trans H3.out.2.1 (by simp)).trans H4.out.1 (by simp)).drewN nq).trans hk5 (by simp)⟩
      · clear hin
        go_wp2_with fail
        refine (words_any wr bm bw ws c HM.out.1.m (by have := HM.out.2.2; omega)).mono ?_
        rintro e w1 ⟨v, rfl, ⟨g, cp, rest, rfl, hg, hrow⟩, hk⟩
        have H3 := Lib.hid (And.intro (HM.out.1.keeps hk (by simp) (by simp) (by simp) (by simp)) (And.intro hk hrow))
        clear hk hrow hg
        go_wp2_with fail
        refine (rwords_any _ rm rw_ ws c H3.out.1.r (by have := HM.out.2.2; omega)).mono ?_
        rintro e w3 ⟨v, rfl, ⟨g2, cp2, rest2, rfl, hg2, hrow2⟩, hk2⟩
        have H4 := Lib.hid (And.intro hk2 (And.intro (hk2.row H3.out.2.2 (by simp)) hrow2))
        clear hk2 hrow2 hg2
        go_wp2_with fail
        refine (eqwords_any _ ws g g2 cp cp2 rest rest2 H4.out.2.1 H4.out.2.2 HM.out.1.m.len).mono ?_
        rintro e w4 ⟨rfl, nq, rfl⟩
        go_wp2_with fail
        refine (works3_any _).mono ?_
        rintro e w5 ⟨rfl, hk5⟩
        go_wp2
        try go_ret
        exact HR.out _ _ ⟨rfl, (((HM.out.2.1.trans H3.out.2.1 (by simp)).trans H4.out.1 (by simp)).drewN nq).trans hk5 (by simp)⟩

theorem plays3_any (n : Int) (a : Option Addr) (len cap : Nat) (w : World) (hz : IsElems w a len cap 6 Good3) :
    Calls Try.prog 6 #[.int .i64 n, .slice a len cap] w fun e w' => e = .returned (.bool true) ∧ Below w.heap.size w w' := by
  by_cases hn : n < 1 ∨ 4096 < n
  · exact (plays3_bad n a len cap w hn).mono fun _ _ ⟨he, hk⟩ => ⟨he, hk.below (Nat.le_refl _) (by simp)⟩
  · obtain ⟨m, rfl⟩ := Int.eq_ofNat_of_zero_le (a := n) (by omega)
    exact (plays3_good m a len cap w hz (by omega) (by omega)).mono fun _ _ ⟨he, hk⟩ => ⟨he, hk.below (Nat.le_refl _) (by simp)⟩

end Go.Proofs.Ytlndpljhcempoaa
