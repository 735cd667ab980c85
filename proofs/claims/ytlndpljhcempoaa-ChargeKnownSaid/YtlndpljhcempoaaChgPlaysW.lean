/- ChargePlays, the walk: what counters answer, call by call, is the document's. Condition: the list is read as calls, each path no longer than a process can hold. -/
import Derived.Test.YtlndpljhcempoaaStep12
namespace Go.Proofs.Ytlndpljhcempoaa
open Go.RowKit

/-- The cells of a call: three numbers, a path that is no longer than a process can hold. -/
def Good12L (W : World) (j : Nat) (v : Value) : Prop :=
  (j < 3 → ∃ z : Int, v = .int .i64 z) ∧ (j = 3 → ∃ a zs cap, v = .slice a zs.length cap ∧ zs.length * 8 ≤ 140737488355328 ∧ ∀ c, W.heap.size ≤ c → IntsAt W c a zs)

theorem IsElems.five12 {w : World} {a : Option Addr} {len cap : Nat} (h : IsElems w a len cap 4 (Good12L w)) {j : Nat} (hj : j < len) :
    ∃ b off kd g n ap zs cp, a = some ⟨b, off, none⟩ ∧ b < w.heap.size ∧ Do12At w b (off + j * 4) kd g n ∧ w.cell? ⟨b, off + j * 4 + 3, none⟩ = some (.slice ap zs.length cp) ∧ zs.length * 8 ≤ 140737488355328 ∧ ∀ c, w.heap.size ≤ c → IntsAt w c ap zs := by
  obtain ⟨b, off, ha, hb, hcell⟩ := h.at (by omega) hj
  obtain ⟨v0, c0, h0, _⟩ := hcell 0 (by omega)
  obtain ⟨v1, c1, h1, _⟩ := hcell 1 (by omega)
  obtain ⟨v2, c2, h2, _⟩ := hcell 2 (by omega)
  obtain ⟨v3, c3, _, h3⟩ := hcell 3 (by omega)
  obtain ⟨z0, rfl⟩ := h0 (by omega)
  obtain ⟨z1, rfl⟩ := h1 (by omega)
  obtain ⟨z2, rfl⟩ := h2 (by omega)
  obtain ⟨ap, zs, cp, rfl, hl, hp⟩ := h3 rfl
  exact ⟨b, off, z0, z1, z2, ap, zs, cp, ha, hb, ⟨c0, by simpa [Nat.add_assoc] using c1, by simpa [Nat.add_assoc] using c2⟩, by simpa [Nat.add_assoc] using c3, hl, hp⟩

set_option maxRecDepth 100000 in
set_option maxHeartbeats 3200000 in
theorem chgplays_keeps (a : Option Addr) (len cap : Nat) (w : World) (hz : IsElems w a len cap 4 (Good12L w)) :
    Calls Try.prog 19 #[.slice a len cap] w fun e w' => e = .returned (.bool true) ∧ Keeps [] w w' := by
  refine calls_hide fun R HR => ?_
  have hlen := hz.len_le
  have HZ := Lib.hid hz
  clear hz
  go_enter Try.func19, Try.ntmps19
  go_wp2_with fail
  refine (new12_any w).mono ?_
  rintro e w1 ⟨rfl, hc, hk⟩
  obtain ⟨b, hb⟩ : ∃ b, b = w.heap.size := ⟨_, rfl⟩
  rw [← hb] at hc
  rw [← hb]
  have H1 := Lib.hid (And.intro hb (And.intro hc hk))
  clear hc hk hb
  go_wp2_with fail
  refine (rnew12_any w1).mono ?_
  rintro e w2 ⟨rfl, hr, hk2⟩
  obtain ⟨r, hrr⟩ : ∃ r, r = w1.heap.size := ⟨_, rfl⟩
  rw [← hrr] at hr
  rw [← hrr]
  have hlb := H1.out.2.1.hd.lt
  have hs1 := H1.out.2.2.size
  have H2 := Lib.hid (And.intro (show w.heap.size ≤ b ∧ w.heap.size ≤ r by have := H1.out.1; omega) (And.intro (Both12.mk (H1.out.2.1.keeps hk2 (by simp)) hr (by omega)) (H1.out.2.2.trans hk2 (by simp))))
  clear hrr hr hk2 hlb hs1 H1
  go_wp2_with fail
  go_loopw [5] (fun i wr => ∃ (j : Nat) (U M : List Int), j ≤ len ∧ i = .int .i64 j ∧ Both12 wr b r U M ∧ Keeps [] w wr) (fun i _ => len - (intOf i).toNat)
  case atStart => exact ⟨0, _, _, by omega, rfl, H2.out.2.1, H2.out.2.2⟩
  case round =>
    obtain ⟨j, U, M, hj, rfl, hb, hkr⟩ := hrel
    have HM := Lib.hid (And.intro hb hkr)
    clear hb hkr
    by_cases hin : j < len ∧ j < 100
    · obtain ⟨hlt, hlt4⟩ := hin
      obtain ⟨bl, off, kd, g, m, ap, zs, cp, ha, hbl, hdo, hcp, hzl, hpa⟩ := HZ.out.five12 hlt
      subst ha
      obtain ⟨c0, c1, c2⟩ := hdo.keeps HM.out.2 hbl (by simp)
      have c3 := (HM.out.2.cell (p := ⟨bl, off + j * 4 + 3, none⟩) hbl (by simp)).trans hcp
      have HP := Lib.hid (And.intro (show Ints2 wr b r ap zs from ⟨(hpa b H2.out.1.1).keeps HM.out.2 (by simp), (hpa r H2.out.1.2).keeps HM.out.2 (by simp)⟩) hzl)
      clear hdo hcp hpa hzl
      go_wp2_with fail
      refine (step12_any wr b r U M kd g m ap zs cp HM.out.1 HP.out.1 HP.out.2).mono ?_
      rintro e w3 ⟨rfl, U', M', hb3, hk3⟩
      have H3 := Lib.hid (And.intro hb3 (HM.out.2.trans hk3 (by simp; exact H2.out.1)))
      clear hb3 hk3 c0 c1 c2 c3
      go_wp2_with fail
      try rw [decide_eq_true (show (j : Int) < 100 by omega)]
      go_loopw [6] (fun i wi => ∃ x : Int, -1 ≤ x ∧ x ≤ 19 ∧ i = .int .i64 x ∧ Both12 wi b r U' M' ∧ Keeps [] w wi) (fun i _ => (19 - intOf i).toNat)
      case atStart => exact ⟨-1, by omega, by omega, rfl, H3.out.1, H3.out.2⟩
      case round =>
        obtain ⟨x, hx1, hx2, rfl, hb, hkr⟩ := hrel
        have HI := Lib.hid (And.intro hb hkr)
        clear hb hkr
        have qg : (usedN U' x != usedN U' x) = false := by simp
        have qn : (usedN M' x != usedN M' x) = false := by simp
        by_cases hx : x < 19
        · go_wp2_with fail
          refine (used_any wr b U' M' HI.out.1.pm x).mono ?_
          rintro e y ⟨rfl, rfl⟩
          go_wp2_with fail
          refine (rused_any wr r U' M' HI.out.1.pr x).mono ?_
          rintro e y ⟨rfl, rfl⟩
          go_wp2_with fail
          refine (most_any wr b U' M' HI.out.1.pm x).mono ?_
          rintro e y ⟨rfl, rfl⟩
          go_wp2_with fail
          refine (rlimits_any wr r U' M' HI.out.1.pr x).mono ?_
          rintro e y ⟨rfl, rfl⟩
          go_wp2
          go_roundw
          case rel => exact ⟨x + 1, by omega, by omega, rfl, HI.out.1, HI.out.2⟩
          case measure => simp [intOf]; omega
        · go_wp2
          go_roundw
          case rel => exact ⟨j + 1, U', M', by omega, by go_num, HI.out.1, HI.out.2⟩
          case measure => simp [intOf]; omega
    · by_cases hlt : j < len
      · have h40 : 100 ≤ j := by omega
        clear hin
        go_wp2_with (go_at_call 44; refine (works12_any wr).mono ?_; rintro e w3 ⟨rfl, hk3⟩)
        try go_ret
        exact HR.out _ _ ⟨rfl, HM.out.2.trans hk3 (by simp)⟩
      · clear hin
        go_wp2_with (go_at_call 44; refine (works12_any wr).mono ?_; rintro e w3 ⟨rfl, hk3⟩)
        try go_ret
        exact HR.out _ _ ⟨rfl, HM.out.2.trans hk3 (by simp)⟩

theorem chgplays_any (a : Option Addr) (len cap : Nat) (w : World) (hz : IsElems w a len cap 4 (Good12L w)) :
    Calls Try.prog 19 #[.slice a len cap] w fun e w' => e = .returned (.bool true) ∧ Below w.heap.size w w' :=
  (chgplays_keeps a len cap w hz).mono fun _ _ ⟨he, hk⟩ => ⟨he, hk.below (Nat.le_refl _) (by simp)⟩

end Go.Proofs.Ytlndpljhcempoaa
