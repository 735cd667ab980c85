/- MemNames, the walk: both ends; memories that are none. No condition. -/
import Derived.Test.YtlndpljhcempoaaMemOthersW
namespace Go.Proofs.Ytlndpljhcempoaa
open Go.RowKit

set_option maxRecDepth 100000 in
set_option maxHeartbeats 400000 in
theorem len_none (w : World) (v : Value) (h : NoMem w v) : Calls Try.prog 33 #[v] w fun e w' => e = .returned (.int .i64 0) ∧ w = w' := by
  rcases h with rfl | ⟨b, rfl, hr⟩
  · go_enter Try.func33, Try.ntmps33
    go_wp2
    go_ret
    exact ⟨rfl, rfl⟩
  · have hm0 := hr.cell (i := 0) rfl
    clear hr
    go_enter Try.func33, Try.ntmps33
    go_wp2
    go_ret
    exact ⟨rfl, rfl⟩

set_option maxRecDepth 100000 in
set_option maxHeartbeats 400000 in
theorem count_none (w : World) (v : Value) (h : NoMem w v) : Calls Try.prog 31 #[v] w fun e w' => e = .returned (.int .i64 0) ∧ w = w' := by
  rcases h with rfl | ⟨b, rfl, hr⟩
  · go_enter Try.func31, Try.ntmps31
    go_wp2
    go_ret
    exact ⟨rfl, rfl⟩
  · have hm0 := hr.cell (i := 1) rfl
    clear hr
    go_enter Try.func31, Try.ntmps31
    go_wp2
    go_ret
    exact ⟨rfl, rfl⟩

set_option maxRecDepth 100000 in
set_option maxHeartbeats 400000 in
theorem words_none (w : World) (v : Value) (h : NoMem w v) : Calls Try.prog 35 #[v] w fun e w' => e = .returned (.slice none 0 0) ∧ w = w' := by
  rcases h with rfl | ⟨b, rfl, hr⟩
  · go_enter Try.func35, Try.ntmps35
    go_wp2
    go_ret
    exact ⟨rfl, rfl⟩
  · have hm0 := hr.cell (i := 0) rfl
    clear hr
    go_enter Try.func35, Try.ntmps35
    go_wp2
    go_ret
    exact ⟨rfl, rfl⟩

theorem repl_getD (n i : Nat) : (List.replicate n (0 : Int)).getD i 0 = 0 := by
  rw [List.getD_eq_getElem?_getD, List.getElem?_replicate]
  split <;> rfl

theorem names_list : ∃ ws : List Int, ws = List.replicate 4096 0 ∧ ws.length = 4096 ∧ ws.getD 4094 0 = 0 ∧ ws.getD 4095 0 = 0 :=
  ⟨_, rfl, List.length_replicate, repl_getD _ _, repl_getD _ _⟩

theorem names_low (ws : List Int) : errB (inb ws (-1) 1) = 9 := by simp [errB, inb]
theorem names_high (ws : List Int) (hl : ws.length = 4096) : errB (inb ws 4096 1) = 9 ∧ stW ws 4096 1 = ws := by simp [errB, inb, stW, hl]
theorem names_high2 (ws : List Int) (hl : ws.length = 4096) : errB (inb ws 4095 2) = 9 ∧ cas2W ws 4095 0 0 1 1 = ws := by simp [errB, inb, cas2W, cas2B, hl]
theorem names_cas2 (ws : List Int) (hl : ws.length = 4096) (h : ws.getD 4094 0 = 0) (h' : ws.getD 4095 0 = 0) : cas2B ws 4094 0 0 = true ∧ errB (inb ws 4094 2) = 0 := by
  have h1 : inb ws 4094 2 = true := by simp [inb, hl]
  refine ⟨?_, by simp [errB, h1]⟩
  unfold cas2B
  rw [h1, show (4094 : Int).toNat = 4094 from rfl, h, h']
  rfl
theorem names_st (ws : List Int) (hl : ws.length = 4096) (v : Int) : errB (inb ws 0 1) = 0 ∧ ldV (stW ws 0 v) 0 = v := by
  have h1 : inb ws 0 1 = true := by simp [inb, hl]
  refine ⟨by simp [errB, h1], ?_⟩
  have h2 : inb (ws.set 0 v) 0 1 = true := by simp [inb, hl]
  simp [stW, h1, ldV, h2, hl]
theorem names_add (ws : List Int) (hl : ws.length = 4096) (v : Int) : ldV (addW ws 0 v) 0 = IntKind.u64.wrap (ldV ws 0 + v) := by
  have h1 : inb ws 0 1 = true := by simp [inb, hl]
  have h2 : ∀ x, inb (ws.set 0 x) 0 1 = true := by simp [inb, hl]
  simp [addW, h1, ldV, h2, hl]

set_option maxRecDepth 100000 in
set_option maxHeartbeats 1600000 in
theorem names_walk (w : World) : Calls Try.prog 8 #[] w fun e w' => e = .returned (.bool true) ∧ Below w.heap.size w w' := by
  refine calls_hide fun R HR => ?_
  go_enter Try.func8, Try.ntmps8
  go_wp2_with fail
  refine (new_bad w 0 (by omega)).mono ?_
  rintro e w1 ⟨rfl, rfl⟩
  go_wp2_with fail
  refine (new_bad w 4097 (by omega)).mono ?_
  rintro e w1 ⟨rfl, rfl⟩
  go_wp2_with fail
  refine (new_ok w 4096 (by omega) (by omega)).mono ?_
  rintro e w1 ⟨rfl, hm, hk⟩
  obtain ⟨ws, hws, hl, h94, h95⟩ := names_list
  rw [← hws] at hm
  obtain ⟨bm, hbm⟩ : ∃ bm, bm = w.heap.size + 1 := ⟨_, rfl⟩
  obtain ⟨bw, hbw⟩ : ∃ bw, bw = w.heap.size := ⟨_, rfl⟩
  rw [← hbm, ← hbw] at hm
  rw [← hbm]
  have HB := Lib.hid (And.intro hbm hbw)
  have HL := Lib.hid (And.intro hl (And.intro h94 h95))
  have H1 := Lib.hid (And.intro hm hk)
  clear hws hl h94 h95 hbm hbw hm hk
  go_wp2_with fail
  refine (load_any w1 bm bw ws 0 H1.out.1 (-1)).mono ?_
  rintro e w2 ⟨rfl, hm, hk⟩
  rw [names_low]
  have H2 := Lib.hid (And.intro hm (H1.out.2.trans hk (by simp; have := HB.out; omega)))
  clear hm hk H1
  go_wp2_with fail
  refine (store_any w2 bm bw ws _ H2.out.1 4096 1).mono ?_
  rintro e w3 ⟨rfl, hm, hk⟩
  obtain ⟨q1, q2⟩ := names_high ws HL.out.1
  rw [q1]
  rw [q2] at hm
  have H3 := Lib.hid (And.intro hm (H2.out.2.trans hk (by simp; have := HB.out; omega)))
  clear hm hk H2 q1 q2
  go_wp2_with fail
  refine (cas2_any w3 bm bw ws _ H3.out.1 4095 0 0 1 1).mono ?_
  rintro e w4 ⟨rfl, hm, hk⟩
  obtain ⟨q1, q2⟩ := names_high2 ws HL.out.1
  rw [q1]
  rw [q2] at hm
  have H4 := Lib.hid (And.intro hm (H3.out.2.trans hk (by simp; have := HB.out; omega)))
  clear hm hk H3 q1 q2
  go_wp2_with fail
  refine (cas2_any w4 bm bw ws _ H4.out.1 4094 0 0 1 1).mono ?_
  rintro e w5 ⟨rfl, hm, hk⟩
  obtain ⟨q1, q2⟩ := names_cas2 ws HL.out.1 HL.out.2.1 HL.out.2.2
  rw [q1, q2]
  have hl5 : (cas2W ws 4094 0 0 1 1).length = 4096 := by rw [cas2_len]; exact HL.out.1
  generalize cas2W ws 4094 0 0 1 1 = ws5 at *
  have H5 := Lib.hid (And.intro hm (And.intro (H4.out.2.trans hk (by simp; have := HB.out; omega)) hl5))
  clear hm hk H4 q1 q2 hl5
  go_wp2_with fail
  refine (store_any w5 bm bw ws5 _ H5.out.1 0 _).mono ?_
  rintro e w6 ⟨rfl, hm, hk⟩
  rw [(names_st ws5 H5.out.2.2 0).1]
  have H6 := Lib.hid (And.intro hm (H5.out.2.1.trans hk (by simp; have := HB.out; omega)))
  clear hm hk
  go_wp2_with fail
  refine (add_any w6 bm bw _ _ H6.out.1 0 2).mono ?_
  rintro e w7 ⟨rfl, hm, hk⟩
  rw [(names_st ws5 H5.out.2.2 _).2]
  have H7 := Lib.hid (And.intro hm (H6.out.2.trans hk (by simp; have := HB.out; omega)))
  clear hm hk
  go_wp2_with fail
  refine (load_any w7 bm bw _ _ H7.out.1 0).mono ?_
  rintro e w8 ⟨rfl, hm, hk⟩
  rw [names_add _ (by rw [st_len]; exact H5.out.2.2), (names_st ws5 H5.out.2.2 _).2, show IntKind.u64.wrap (18446744073709551615 + 2) = 1 from by decide]
  have H8 := Lib.hid (And.intro hm (H7.out.2.trans hk (by simp; have := HB.out; omega)))
  clear hm hk
  go_wp2_with fail
  go_loopw [19, 20] (fun v i wr => ∃ k : Nat, k ≤ 2 ∧ i = .int .i64 k ∧ NoMem wr v ∧ Keeps [] w8 wr) (fun _ i _ => 2 - (intOf i).toNat)
  case atStart => exact ⟨0, by omega, rfl, .inl rfl, Keeps.refl _ _⟩
  case round =>
    obtain ⟨k, hk, rfl, hno, hkr⟩ := hrel
    by_cases hlt : k < 2
    · have HM := Lib.hid (And.intro hno hkr)
      clear hno hkr
      go_wp2_with fail
      refine (load_none wr _ HM.out.1 0).mono ?_
      rintro e x1 ⟨rfl, hk1⟩
      have X1 := Lib.hid (And.intro (HM.out.1.keeps hk1 (by simp)) hk1)
      clear hk1
      go_wp2_with fail
      refine (store_none x1 _ X1.out.1 0 0).mono ?_
      rintro e x2 ⟨rfl, hk2⟩
      have X2 := Lib.hid (And.intro (X1.out.1.keeps hk2 (by simp)) (X1.out.2.trans hk2 (by simp)))
      clear hk2
      go_wp2_with fail
      refine (cas_none x2 _ X2.out.1 0 0 0).mono ?_
      rintro e x3 ⟨rfl, hk3⟩
      have X3 := Lib.hid (And.intro (X2.out.1.keeps hk3 (by simp)) (X2.out.2.trans hk3 (by simp)))
      clear hk3
      go_wp2_with fail
      refine (cas2_none x3 _ X3.out.1 0 0 0 0 0).mono ?_
      rintro e x4 ⟨rfl, hk4⟩
      have X4 := Lib.hid (And.intro (X3.out.1.keeps hk4 (by simp)) (X3.out.2.trans hk4 (by simp)))
      clear hk4
      go_wp2_with fail
      refine (add_none x4 _ X4.out.1 0 0).mono ?_
      rintro e x5 ⟨rfl, hk5⟩
      have X5 := Lib.hid (And.intro (X4.out.1.keeps hk5 (by simp)) (X4.out.2.trans hk5 (by simp)))
      clear hk5
      go_wp2_with fail
      refine (len_none x5 _ X5.out.1).mono ?_
      rintro e x6 ⟨rfl, rfl⟩
      go_wp2_with fail
      refine (words_none x5 _ X5.out.1).mono ?_
      rintro e x6 ⟨rfl, rfl⟩
      go_wp2_with fail
      refine (count_none x5 _ X5.out.1).mono ?_
      rintro e x6 ⟨rfl, rfl⟩
      go_wp2
      go_roundw
      case rel => exact ⟨k + 1, by omega, by go_num, .inr ⟨_, rfl, Row.new x5 [.slice none 0 0, .int .i64 0] 66⟩, (HM.out.2.trans X5.out.2 (by simp)).alloc _⟩
      case measure => simp [intOf]; omega
    · have hm8 := H8.out.1.keeps hkr (by simp) (by simp)
      have HM := Lib.hid (And.intro hkr hm8)
      clear hno hkr hm8
      go_wp2_with fail
      refine (works3_any wr).mono ?_
      rintro e y1 ⟨rfl, hk1⟩
      have Y1 := Lib.hid (And.intro hk1 (HM.out.2.keeps hk1 (by simp) (by simp)))
      clear hk1
      go_wp2_with fail
      refine (len_any y1 bm bw _ _ Y1.out.2).mono ?_
      rintro e y2 ⟨rfl, rfl⟩
      rw [add_len, st_len, H5.out.2.2]
      go_wp2
      try go_ret
      exact HR.out _ _ ⟨rfl, ((H8.out.2.trans HM.out.1 (by simp)).trans Y1.out.1 (by simp)).below (Nat.le_refl _) (by simp)⟩

end Go.Proofs.Ytlndpljhcempoaa
