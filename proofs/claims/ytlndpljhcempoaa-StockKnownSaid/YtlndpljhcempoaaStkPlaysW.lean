/- StockPlays, the walk: what stocks answer, call by call, is the document's. Condition: the list is read as calls. -/
import Derived.Test.YtlndpljhcempoaaStkStepW
namespace Go.Proofs.Ytlndpljhcempoaa
open Go.RowKit

/-- A field of a call: a number. -/
def GoodInt (_ : Nat) (v : Value) : Prop := ∃ z : Int, v = .int .i64 z

/-- The four cells of a call. -/
structure Do13At (w : World) (b o : Nat) (kd c g n : Int) : Prop where
  c0 : w.cell? ⟨b, o, none⟩ = some (.int .i64 kd)
  c1 : w.cell? ⟨b, o + 1, none⟩ = some (.int .i64 c)
  c2 : w.cell? ⟨b, o + 2, none⟩ = some (.int .i64 g)
  c3 : w.cell? ⟨b, o + 3, none⟩ = some (.int .i64 n)

theorem Do13At.keeps {w w' : World} {b o : Nat} {kd c g n : Int} {S : List Nat} (h : Do13At w b o kd c g n) (hk : Keeps S w w') (hb : b < w.heap.size) (hS : b ∉ S) : Do13At w' b o kd c g n :=
  ⟨(hk.cell (p := ⟨b, _, none⟩) hb hS).trans h.c0, (hk.cell (p := ⟨b, _, none⟩) hb hS).trans h.c1, (hk.cell (p := ⟨b, _, none⟩) hb hS).trans h.c2, (hk.cell (p := ⟨b, _, none⟩) hb hS).trans h.c3⟩

theorem IsElems.four {w : World} {a : Option Addr} {len cap : Nat} (h : IsElems w a len cap 4 GoodInt) {j : Nat} (hj : j < len) :
    ∃ b off kd c g n, a = some ⟨b, off, none⟩ ∧ b < w.heap.size ∧ Do13At w b (off + j * 4) kd c g n := by
  obtain ⟨b, off, ha, hb, hcell⟩ := h.at (by omega) hj
  obtain ⟨v0, c0, z0, rfl⟩ := hcell 0 (by omega)
  obtain ⟨v1, c1, z1, rfl⟩ := hcell 1 (by omega)
  obtain ⟨v2, c2, z2, rfl⟩ := hcell 2 (by omega)
  obtain ⟨v3, c3, z3, rfl⟩ := hcell 3 (by omega)
  exact ⟨b, off, z0, z1, z2, z3, ha, hb, c0, by simpa [Nat.add_assoc] using c1, by simpa [Nat.add_assoc] using c2, by simpa [Nat.add_assoc] using c3⟩

set_option maxRecDepth 100000 in
set_option maxHeartbeats 1600000 in
theorem plays13_bad (m : Int) (a : Option Addr) (len cap : Nat) (w : World) (hn : m < 1 ∨ 8 < m) :
    Calls Try.prog 10 #[.int .i64 m, .slice a len cap] w fun e w' => e = .returned (.bool true) ∧ Keeps [] w w' := by
  refine calls_hide fun R HR => ?_
  have HN := Lib.hid hn
  clear hn
  go_enter Try.func10, Try.ntmps10
  go_wp2_with fail
  refine (snew_bad w m HN.out).mono ?_
  rintro e w1 ⟨rfl, rfl⟩
  go_wp2_with fail
  refine (rsnew_bad w m HN.out).mono ?_
  rintro e w1 ⟨rfl, rfl⟩
  go_wp2_with fail
  refine wp_loop_rounds 1 ?_
  rw [rounds_succ]
  by_cases h0 : 0 < len
  · go_wp2_with (go_at_call 54; refine (works13_any w).mono ?_; rintro e w3 ⟨rfl, hk3⟩)
    try go_ret
    exact HR.out _ _ ⟨rfl, hk3⟩
  · go_wp2_with (go_at_call 54; refine (works13_any w).mono ?_; rintro e w3 ⟨rfl, hk3⟩)
    try go_ret
    exact HR.out _ _ ⟨rfl, hk3⟩

set_option maxRecDepth 100000 in
set_option maxHeartbeats 3200000 in
theorem plays13_good (m : Nat) (a : Option Addr) (len cap : Nat) (w : World) (hz : IsElems w a len cap 4 GoodInt) (h1 : 1 ≤ m) (h2 : m ≤ 8) :
    Calls Try.prog 10 #[.int .i64 m, .slice a len cap] w fun e w' => e = .returned (.bool true) ∧ Keeps [] w w' := by
  refine calls_hide fun R HR => ?_
  have hlen := hz.len_le
  have HZ := Lib.hid hz
  clear hz
  go_enter Try.func10, Try.ntmps10
  go_wp2_with fail
  refine (snew_ok w m h1 h2).mono ?_
  rintro e w1 ⟨rfl, hm, hk⟩
  obtain ⟨b1, hb1⟩ : ∃ b1, b1 = w.heap.size + 1 := ⟨_, rfl⟩
  obtain ⟨s1, hs1⟩ : ∃ s1, s1 = w.heap.size := ⟨_, rfl⟩
  rw [← hb1, ← hs1] at hm
  rw [← hb1]
  have H1 := Lib.hid (And.intro (And.intro hb1 hs1) (And.intro hm hk))
  clear hb1 hs1 hk hm
  go_wp2_with fail
  refine (rsnew_ok w1 m h1 h2).mono ?_
  rintro e w2 ⟨rfl, hr, hk2⟩
  have hx1 := H1.out.2.1.hd.lt
  have hx2 := H1.out.2.1.el.lt
  have hm2 := H1.out.2.1.keeps hk2 (by simp) (by simp)
  have hb2 : Both13 w2 b1 s1 (w1.heap.size + 1) w1.heap.size (List.replicate m (0, 0)) := ⟨hm2, hr, by omega, by omega, by omega, by omega⟩
  obtain ⟨b2, hbb⟩ : ∃ b2, b2 = w1.heap.size + 1 := ⟨_, rfl⟩
  obtain ⟨s2, hss⟩ : ∃ s2, s2 = w1.heap.size := ⟨_, rfl⟩
  rw [← hbb, ← hss] at hb2
  rw [← hbb]
  have hsz := H1.out.2.2.size
  have hge : w.heap.size ≤ b1 ∧ w.heap.size ≤ s1 ∧ w.heap.size ≤ b2 ∧ w.heap.size ≤ s2 := by have := H1.out.1; omega
  have H2 := Lib.hid (And.intro hge (And.intro hb2 (H1.out.2.2.trans hk2 (by simp))))
  clear hbb hss hk2 hr hm2 hb2 hge hx1 hx2 hsz H1
  go_wp2_with fail
  go_loopw [9] (fun i wr => ∃ (j : Nat) (L : List (Int × Int)), j ≤ len ∧ j ≤ 100 ∧ i = .int .i64 j ∧ Both13 wr b1 s1 b2 s2 L ∧ Keeps [] w wr) (fun i _ => len - (intOf i).toNat)
  case atStart => exact ⟨0, _, by omega, by omega, rfl, H2.out.2.1, H2.out.2.2⟩
  case round =>
    obtain ⟨j, L, hj, hj4, rfl, hb, hkr⟩ := hrel
    have HM := Lib.hid (And.intro hb hkr)
    clear hb hkr
    by_cases hin : j < len ∧ j < 100
    · obtain ⟨hlt, hlt4⟩ := hin
      obtain ⟨b, off, kd, c, g, n, ha, hb, hdo⟩ := HZ.out.four hlt
      subst ha
      obtain ⟨c0, c1, c2, c3⟩ := hdo.keeps HM.out.2 hb (by simp)
      clear hdo
      go_wp2_with fail
      refine (step13_any wr b1 s1 b2 s2 L kd c g n HM.out.1).mono ?_
      rintro e w3 ⟨rfl, L', hb3, _, hk3⟩
      have H3 := Lib.hid (And.intro hb3 (HM.out.2.trans hk3 (by simp; have := H2.out.1; omega)))
      clear hb3 hk3 c0 c1 c2 c3
      go_wp2_with fail
      go_loopw [10] (fun i wi => ∃ x : Int, -1 ≤ x ∧ x ≤ 18 ∧ i = .int .i64 x ∧ Both13 wi b1 s1 b2 s2 L' ∧ Keeps [] w wi) (fun i _ => (18 - intOf i).toNat)
      case atStart => exact ⟨-1, by omega, by omega, rfl, H3.out.1, H3.out.2⟩
      case round =>
        obtain ⟨x, hx1, hx2, rfl, hb, hkr⟩ := hrel
        have HI := Lib.hid (And.intro hb hkr)
        clear hb hkr
        have qg : ((at2 L' x).1 != (at2 L' x).1) = false := by simp
        have qn : ((at2 L' x).2 != (at2 L' x).2) = false := by simp
        have qh : (held L' x != held L' x) = false := by simp
        by_cases hx : x < 18
        · go_wp2_with fail
          refine (has_any wr b1 s1 L' HI.out.1.pm x).mono ?_
          rintro e y1 ⟨rfl, hk1⟩
          have Y1 := Lib.hid (And.intro (HI.out.1.keeps hk1 (by simp) (by simp) (by simp) (by simp)) (HI.out.2.trans hk1 (by simp)))
          clear hk1
          go_wp2_with fail
          refine (rhas_any y1 b2 s2 L' Y1.out.1.pr x).mono ?_
          rintro e y2 ⟨rfl, hk1⟩
          have Y2 := Lib.hid (And.intro (Y1.out.1.keeps hk1 (by simp) (by simp) (by simp) (by simp)) (Y1.out.2.trans hk1 (by simp)))
          clear hk1
          go_wp2_with fail
          refine (held_any y2 b1 s1 L' Y2.out.1.pm x).mono ?_
          rintro e y3 ⟨rfl, hk1⟩
          have Y3 := Lib.hid (And.intro (Y2.out.1.keeps hk1 (by simp) (by simp) (by simp) (by simp)) (Y2.out.2.trans hk1 (by simp)))
          clear hk1
          go_wp2_with fail
          refine (rheld_any y3 b2 s2 L' Y3.out.1.pr x).mono ?_
          rintro e y4 ⟨rfl, hk1⟩
          have Y4 := Lib.hid (And.intro (Y3.out.1.keeps hk1 (by simp) (by simp) (by simp) (by simp)) (Y3.out.2.trans hk1 (by simp)))
          clear hk1
          go_wp2
          go_roundw
          case rel => exact ⟨x + 1, by omega, by omega, rfl, Y4.out.1, Y4.out.2⟩
          case measure => simp [intOf]; omega
        · go_wp2
          go_roundw
          case rel => exact ⟨j + 1, L', by omega, by omega, by go_num, HI.out.1, HI.out.2⟩
          case measure => simp [intOf]; omega
    · by_cases hlt : j < len
      · have h40 : 100 ≤ j := by omega
        clear hin
        go_wp2_with (go_at_call 54; refine (works13_any wr).mono ?_; rintro e w3 ⟨rfl, hk3⟩)
        try go_ret
        exact HR.out _ _ ⟨rfl, HM.out.2.trans hk3 (by simp)⟩
      · clear hin
        go_wp2_with (go_at_call 54; refine (works13_any wr).mono ?_; rintro e w3 ⟨rfl, hk3⟩)
        try go_ret
        exact HR.out _ _ ⟨rfl, HM.out.2.trans hk3 (by simp)⟩

/-- StockPlays, whatever comes in. -/
theorem plays13_keeps (m : Int) (a : Option Addr) (len cap : Nat) (w : World) (hz : IsElems w a len cap 4 GoodInt) :
    Calls Try.prog 10 #[.int .i64 m, .slice a len cap] w fun e w' => e = .returned (.bool true) ∧ Keeps [] w w' := by
  by_cases hn : m < 1 ∨ 8 < m
  · exact plays13_bad m a len cap w hn
  · obtain ⟨n, rfl⟩ := Int.eq_ofNat_of_zero_le (a := m) (by omega)
    exact plays13_good n a len cap w hz (by omega) (by omega)

theorem plays13_any (m : Int) (a : Option Addr) (len cap : Nat) (w : World) (hz : IsElems w a len cap 4 GoodInt) :
    Calls Try.prog 10 #[.int .i64 m, .slice a len cap] w fun e w' => e = .returned (.bool true) ∧ Below w.heap.size w w' :=
  (plays13_keeps m a len cap w hz).mono fun _ _ ⟨he, hk⟩ => ⟨he, hk.below (Nat.le_refl _) (by simp)⟩

end Go.Proofs.Ytlndpljhcempoaa
