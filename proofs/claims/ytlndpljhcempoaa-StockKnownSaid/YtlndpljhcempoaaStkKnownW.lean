/- StockKnown, the walk: both ends of all; stocks that are none. No condition. -/
import Derived.Test.YtlndpljhcempoaaSumsA
import Derived.Test.YtlndpljhcempoaaStkPlaysW
import Derived.BigRegion
namespace Go.Proofs.Ytlndpljhcempoaa
open Go.RowKit

theorem IsElems.ofRow {w : World} {b : Nat} {t : TypeId} {vs : List Value} {n : Nat} (h : Row w b t vs) (hl : vs.length = n * 4) (hn : n ≤ maxLen) (hv : ∀ v ∈ vs, ∃ z : Int, v = .int .i64 z) :
    IsElems w (some ⟨b, 0, none⟩) n n 4 GoodInt := by
  refine .inr ⟨_, rfl, Nat.le_refl _, hn, fun i hi j hj => ?_⟩
  have hlt : i * 4 + j < vs.length := by omega
  obtain ⟨z, hz⟩ := hv _ (List.getElem_mem hlt)
  refine ⟨.int .i64 z, ?_, z, rfl⟩
  have := h.cell (i := i * 4 + j) (v := .int .i64 z) (by rw [List.getElem?_eq_getElem hlt, hz])
  unfold Addr.add
  dsimp only
  rw [Nat.zero_add]
  split
  · next h0 => rw [h0] at this; exact this
  · exact this

theorem IsElems.keeps {w w' : World} {a : Option Addr} {len cap size : Nat} {good : Nat → Value → Prop} (h : IsElems w a len cap size good) (hk : Keeps [] w w') : IsElems w' a len cap size good := by
  rcases h with h | ⟨x, rfl, hl, hm, hc⟩
  · exact .inl h
  · refine .inr ⟨x, rfl, hl, hm, fun i hi j hj => ?_⟩
    obtain ⟨v, hv, hg⟩ := hc i hi j hj
    refine ⟨v, ?_, hg⟩
    have hlt : (x.add (i * size + j)).block < w.heap.size := by
      rcases Nat.lt_or_ge (x.add (i * size + j)).block w.heap.size with h' | h'
      · exact h'
      · simp [World.cell?, Array.getElem?_eq_none h'] at hv
    exact (hk.cell hlt (by simp)).trans hv

/-- The calls of both ends. -/
def callsOf (ex ey : Int) : List Value := [.int .i64 1, .int .i64 0, .int .i64 1, .int .i64 ex, .int .i64 1, .int .i64 0, .int .i64 1, .int .i64 ey, .int .i64 0, .int .i64 0, .int .i64 1, .int .i64 ex, .int .i64 1, .int .i64 0, .int .i64 2, .int .i64 ey, .int .i64 0, .int .i64 0, .int .i64 2, .int .i64 ey, .int .i64 1, .int .i64 0, .int .i64 16, .int .i64 5, .int .i64 1, .int .i64 0, .int .i64 17, .int .i64 5, .int .i64 1, .int .i64 9, .int .i64 0, .int .i64 0, .int .i64 0, .int .i64 (-1), .int .i64 1, .int .i64 1, .int .i64 2, .int .i64 8, .int .i64 0, .int .i64 0, .int .i64 2, .int .i64 0, .int .i64 0, .int .i64 0]

theorem callsOf_elems (w : World) (ex ey : Int) : IsElems (w.alloc (.cells (callsOf ex ey).toArray 81)).drew (some ⟨w.heap.size, 0, none⟩) 11 11 4 GoodInt :=
  IsElems.ofRow (Row.drew (Row.new w (callsOf ex ey) 81)) rfl (by decide) (by unfold callsOf; repeat (first | exact List.forall_mem_nil _ | refine List.forall_mem_cons.2 ⟨⟨_, rfl⟩, ?_⟩))

theorem ends_list : ∃ E : List Int, E = [-9223372036854775808, -1, 0, 1, 511, 512, 513, 1023, 1024, 1025, 9007199254740991, 9007199254740992, 9223372036854775807] ∧ E.length = 13 := ⟨_, rfl, rfl⟩

set_option maxRecDepth 100000 in
set_option maxHeartbeats 3200000 in
theorem known13_keeps (w : World) :
    Calls Try.prog 13 #[] w fun e w' => e = .returned (.bool true) ∧ Keeps [] w w' := by
  refine calls_hide fun R HR => ?_
  go_enter Try.func13, Try.ntmps13
  go_wp2_with fail
  go_loopw [1, 2] (fun v i wr => ∃ k : Nat, k ≤ 2 ∧ i = .int .i64 k ∧ NoStk wr v ∧ Keeps [] w wr) (fun _ i _ => 2 - (intOf i).toNat)
  case atStart => exact ⟨0, by omega, rfl, .inl rfl, Keeps.refl _ _⟩
  case round =>
    obtain ⟨k, hk, rfl, hno, hkr⟩ := hrel
    by_cases hlt : k < 2
    · have HM := Lib.hid (And.intro hno hkr)
      clear hno hkr
      go_wp2_with fail
      refine (put_none wr _ HM.out.1 (-1) 0 0).mono ?_
      rintro e x1 ⟨rfl, hk1⟩
      have X1 := Lib.hid (And.intro (HM.out.1.keeps hk1 (by simp)) hk1)
      clear hk1
      go_wp2_with fail
      refine (drain_none x1 _ X1.out.1 0).mono ?_
      rintro e x2 ⟨rfl, hk2⟩
      have X2 := Lib.hid (And.intro (X1.out.1.keeps hk2 (by simp)) (X1.out.2.trans hk2 (by simp)))
      clear hk2
      go_wp2_with fail
      refine (has_none x2 _ X2.out.1 0).mono ?_
      rintro e x3 ⟨rfl, hk3⟩
      have X3 := Lib.hid (And.intro (X2.out.1.keeps hk3 (by simp)) (X2.out.2.trans hk3 (by simp)))
      clear hk3
      go_wp2_with fail
      refine (held_none x3 _ X3.out.1 1).mono ?_
      rintro e x4 ⟨rfl, hk4⟩
      have X4 := Lib.hid (And.intro (X3.out.1.keeps hk4 (by simp)) (X3.out.2.trans hk4 (by simp)))
      clear hk4
      go_wp2_with fail
      refine (take_none x4 _ X4.out.1 0 1 1).mono ?_
      rintro e x5 ⟨rfl, hk5⟩
      have X5 := Lib.hid (And.intro (X4.out.1.keeps hk5 (by simp)) (X4.out.2.trans hk5 (by simp)))
      clear hk5
      go_wp2
      go_roundw
      case rel => exact ⟨k + 1, by omega, by go_num, .inr ⟨_, rfl, Row.new x5 [.slice none 0 0] 93⟩, (HM.out.2.trans X5.out.2 (by simp)).alloc _⟩
      case measure => simp [intOf]; omega
    · obtain rfl : k = 2 := by omega
      obtain ⟨E, hE, hlE⟩ := ends_list
      have hA : ArrIs 3 (wr.alloc (.cells #[.int .i64 (-9223372036854775808), .int .i64 (-1), .int .i64 0, .int .i64 1, .int .i64 511, .int .i64 512, .int .i64 513, .int .i64 1023, .int .i64 1024, .int .i64 1025, .int .i64 9007199254740991, .int .i64 9007199254740992, .int .i64 9223372036854775807] 3)) wr.heap.size E := by subst hE; exact Row.new wr _ 3
      have hK : Keeps [] w (wr.alloc (.cells #[.int .i64 (-9223372036854775808), .int .i64 (-1), .int .i64 0, .int .i64 1, .int .i64 511, .int .i64 512, .int .i64 513, .int .i64 1023, .int .i64 1024, .int .i64 1025, .int .i64 9007199254740991, .int .i64 9007199254740992, .int .i64 9223372036854775807] 3)) := hkr.alloc _
      have HA := Lib.hid (And.intro hA (And.intro hK hlE))
      obtain ⟨be, hbe, hge⟩ : ∃ be, be = wr.heap.size ∧ w.heap.size ≤ be := ⟨_, rfl, hkr.size⟩
      clear hno hkr hA hK hE hlE hlt hk
      go_wp2_with fail
      rw [← hbe] at HA
      rw [← hbe, show ((2 : Nat) : Int) = 2 from rfl]
      generalize wr.alloc (.cells #[.int .i64 (-9223372036854775808), .int .i64 (-1), .int .i64 0, .int .i64 1, .int .i64 511, .int .i64 512, .int .i64 513, .int .i64 1023, .int .i64 1024, .int .i64 1025, .int .i64 9007199254740991, .int .i64 9007199254740992, .int .i64 9223372036854775807] 3) = wa at *
      clear hbe
      go_loopw [11] (fun i wi => ∃ x : Nat, x ≤ 13 ∧ i = .int .i64 x ∧ ArrIs 3 wi be E ∧ Keeps [] w wi) (fun i _ => 13 - (intOf i).toNat)
      case atStart => exact ⟨0, by omega, rfl, HA.out.1, HA.out.2.1⟩
      case round =>
        obtain ⟨x, hx13, rfl, ha, hk⟩ := hrel
        have HX := Lib.hid (And.intro ha hk)
        clear ha hk
        by_cases hx : x < 13
        · go_wp2_with fail
          rw [decide_eq_true (show (x : Int) < 13 by omega)]
          go_loopw [12] (fun i wi => ∃ y : Nat, y ≤ 13 ∧ i = .int .i64 y ∧ ArrIs 3 wi be E ∧ Keeps [] w wi) (fun i _ => 13 - (intOf i).toNat)
          case atStart => exact ⟨0, by omega, rfl, HX.out.1, HX.out.2⟩
          case round =>
            obtain ⟨y, hy13, rfl, ha, hk⟩ := hrel
            have HY := Lib.hid (And.intro ha hk)
            clear ha hk
            by_cases hy : y < 13
            · have c1 := HY.out.1.cell (g := x) (by rw [HA.out.2.2]; omega)
              have c2 := HY.out.1.cell (g := y) (by rw [HA.out.2.2]; omega)
              generalize E.getD x 0 = ex at *
              generalize E.getD y 0 = ey at *
              have hi1 : 0 ≤ (x : Int) ∧ (x : Int) < 13 := by omega
              have hi2 : 0 ≤ (y : Int) ∧ (y : Int) < 13 := by omega
              go_wp2_with fail
              go_region
              go_wp2_with fail
              have hel : IsElems (wr.alloc (.cells #[.int .i64 1, .int .i64 0, .int .i64 1, .int .i64 ex, .int .i64 1, .int .i64 0, .int .i64 1, .int .i64 ey, .int .i64 0, .int .i64 0, .int .i64 1, .int .i64 ex, .int .i64 1, .int .i64 0, .int .i64 2, .int .i64 ey, .int .i64 0, .int .i64 0, .int .i64 2, .int .i64 ey, .int .i64 1, .int .i64 0, .int .i64 16, .int .i64 5, .int .i64 1, .int .i64 0, .int .i64 17, .int .i64 5, .int .i64 1, .int .i64 9, .int .i64 0, .int .i64 0, .int .i64 0, .int .i64 (-1), .int .i64 1, .int .i64 1, .int .i64 2, .int .i64 8, .int .i64 0, .int .i64 0, .int .i64 2, .int .i64 0, .int .i64 0, .int .i64 0] 81)).drew (some ⟨wr.heap.size, 0, none⟩) 11 11 4 GoodInt := callsOf_elems wr ex ey
              have hkq : Keeps [] wr (wr.alloc (.cells #[.int .i64 1, .int .i64 0, .int .i64 1, .int .i64 ex, .int .i64 1, .int .i64 0, .int .i64 1, .int .i64 ey, .int .i64 0, .int .i64 0, .int .i64 1, .int .i64 ex, .int .i64 1, .int .i64 0, .int .i64 2, .int .i64 ey, .int .i64 0, .int .i64 0, .int .i64 2, .int .i64 ey, .int .i64 1, .int .i64 0, .int .i64 16, .int .i64 5, .int .i64 1, .int .i64 0, .int .i64 17, .int .i64 5, .int .i64 1, .int .i64 9, .int .i64 0, .int .i64 0, .int .i64 0, .int .i64 (-1), .int .i64 1, .int .i64 1, .int .i64 2, .int .i64 8, .int .i64 0, .int .i64 0, .int .i64 2, .int .i64 0, .int .i64 0, .int .i64 0] 81)).drew := ((Keeps.refl [] wr).alloc _).drew
              have HL := Lib.hid (And.intro hel (And.intro (HY.out.1.keeps hkq (by simp)) (HY.out.2.trans hkq (by simp))))
              clear hel hkq c1 c2
              generalize (wr.alloc (.cells #[.int .i64 1, .int .i64 0, .int .i64 1, .int .i64 ex, .int .i64 1, .int .i64 0, .int .i64 1, .int .i64 ey, .int .i64 0, .int .i64 0, .int .i64 1, .int .i64 ex, .int .i64 1, .int .i64 0, .int .i64 2, .int .i64 ey, .int .i64 0, .int .i64 0, .int .i64 2, .int .i64 ey, .int .i64 1, .int .i64 0, .int .i64 16, .int .i64 5, .int .i64 1, .int .i64 0, .int .i64 17, .int .i64 5, .int .i64 1, .int .i64 9, .int .i64 0, .int .i64 0, .int .i64 0, .int .i64 (-1), .int .i64 1, .int .i64 1, .int .i64 2, .int .i64 8, .int .i64 0, .int .i64 0, .int .i64 2, .int .i64 0, .int .i64 0, .int .i64 0] 81)).drew = wq at *
              refine (plays13_keeps 1 _ 11 11 wq HL.out.1).mono ?_
              rintro e w3 ⟨rfl, hk3⟩
              have H3 := Lib.hid (And.intro (HL.out.1.keeps hk3) (And.intro (HL.out.2.1.keeps hk3 (by simp)) (HL.out.2.2.trans hk3 (by simp))))
              clear hk3
              go_wp2_with fail
              refine (plays13_keeps 8 _ 11 11 w3 H3.out.1).mono ?_
              rintro e w4 ⟨rfl, hk4⟩
              have H4 := Lib.hid (And.intro (H3.out.2.1.keeps hk4 (by simp)) (H3.out.2.2.trans hk4 (by simp)))
              clear hk4
              go_wp2
              go_roundw
              case rel => exact ⟨y + 1, by omega, by go_num, H4.out.1, H4.out.2⟩
              case measure => simp [intOf]; omega
            · go_wp2
              go_roundw
              case rel => exact ⟨x + 1, by omega, by go_num, HY.out.1, HY.out.2⟩
              case measure => simp [intOf]; omega
        · go_wp2_with fail
          refine (works13_any wr).mono ?_
          rintro e w3 ⟨rfl, hk3⟩
          have H3 := Lib.hid (HX.out.2.trans hk3 (by simp))
          clear hk3
          go_wp2_with fail
          refine (plays13_bad 0 none 0 0 w3 (by omega)).mono ?_
          rintro e w4 ⟨rfl, hk4⟩
          have H4 := Lib.hid (H3.out.trans hk4 (by simp))
          clear hk4
          go_wp2_with fail
          refine (plays13_bad 9 none 0 0 w4 (by omega)).mono ?_
          rintro e w5 ⟨rfl, hk5⟩
          have H5 := Lib.hid (H4.out.trans hk5 (by simp))
          clear hk5
          go_wp2
          try go_ret
          exact HR.out _ _ ⟨rfl, H5.out⟩

theorem known13_any (w : World) : Calls Try.prog 13 #[] w fun e w' => e = .returned (.bool true) ∧ Below w.heap.size w w' :=
  (known13_keeps w).mono fun _ _ ⟨he, hk⟩ => ⟨he, hk.below (Nat.le_refl _) (by simp)⟩

end Go.Proofs.Ytlndpljhcempoaa
