/- The document's answer for stocks (wainscotref13), method by method: the same pairs, the same answers as the package stock. Condition: the reference's blocks read as a list of pairs. -/
import Derived.Test.YtlndpljhcempoaaStkQ
namespace Go.Proofs.Ytlndpljhcempoaa
open Go.RowKit

set_option maxRecDepth 100000 in
set_option maxHeartbeats 800000 in
theorem rhas2_any (w : World) (b bs : Nat) (L : List (Int × Int)) (h : StkIs 128 134 w b bs L) (c : Int) :
    Calls Try.prog 94 #[.pointer (some ⟨b, 0, none⟩), .int .i64 c] w fun e w' => e = .returned (.bool (okC L c)) ∧ w = w' := by
  refine calls_hide fun R HR => ?_
  have c0 := h.hd.cell (i := 0) rfl
  have hl := h.len
  clear h
  cases hc : okC L c with
  | true =>
    rw [hc] at HR
    obtain ⟨k, rfl, hk⟩ := okC_true hc
    clear hc
    go_enter Try.func94, Try.ntmps94
    go_wp2
    try go_ret
    exact HR.out _ _ ⟨rfl, rfl⟩
  | false =>
    rw [hc] at HR
    have hd := okC_false hc
    clear hc
    by_cases h0 : c < 0
    · have h1 : decide (0 ≤ c) = false := by simp; omega
      clear hd
      go_enter Try.func94, Try.ntmps94
      go_wp2
      try go_ret
      exact HR.out _ _ ⟨rfl, rfl⟩
    · have h1 : (L.length : Int) ≤ c := by omega
      have h2 : 0 ≤ c := by omega
      have h3 : decide (c < (L.length : Int)) = false := by simp; omega
      clear hd
      go_enter Try.func94, Try.ntmps94
      go_wp2
      try go_ret
      exact HR.out _ _ ⟨rfl, rfl⟩

set_option maxRecDepth 100000 in
set_option maxHeartbeats 800000 in
theorem rset_any (w : World) (b bs : Nat) (L : List (Int × Int)) (h : StkIs 128 134 w b bs L) (k : Nat) (hk : k < L.length) (g n : Int) (hf : Fine (whole2 g n)) :
    Calls Try.prog 113 #[.pointer (some ⟨b, 0, none⟩), .int .i64 k, .int .i64 g, .int .i64 n] w fun e w' => e = .returned (.tuple #[]) ∧ StkIs 128 134 w' b bs (L.set k (whole2 g n)) ∧ Keeps [bs] w w' := by
  refine calls_hide fun R HR => ?_
  have c0 := h.hd.cell (i := 0) rfl
  have hl := h.len
  have e0 := h.el.cell (stc_get0 L k hk)
  have e1 := h.el.cell (stc_get1 L k hk)
  have f0 := h.el.free (k * 2)
  have f1 := h.el.free (k * 2 + 1)
  by_cases hn : n = 0
  · have hb : (n == 0) = true := beq_iff_eq.2 hn
    have hw : whole2 g n = (0, 0) := by rw [whole2, if_pos hn]
    have HS := Lib.hid (h.put k (hw ▸ hf))
    rw [hw] at HR
    subst hn
    go_enter Try.func113, Try.ntmps113
    go_wp2
    first | go_end0 | skip
    exact HR.out _ _ ⟨rfl, HS.out, ((Keeps.refl _ _).set (by simp) _).set (by simp) _⟩
  · have hb : (n == 0) = false := beq_eq_false_iff_ne.2 hn
    have hw : whole2 g n = (g, n) := by rw [whole2, if_neg hn]
    have HS := Lib.hid (h.put k (hw ▸ hf))
    rw [hw] at HR
    clear hn
    go_enter Try.func113, Try.ntmps113
    go_wp2
    first | go_end0 | skip
    exact HR.out _ _ ⟨rfl, HS.out, ((Keeps.refl _ _).set (by simp) _).set (by simp) _⟩

set_option maxRecDepth 100000 in
set_option maxHeartbeats 800000 in
theorem rsnew_bad (w : World) (n : Int) (h : n < 1 ∨ 8 < n) :
    Calls Try.prog 48 #[.int .i64 n] w fun e w' => e = .returned (.tuple #[.pointer none, .int .i64 2]) ∧ w = w' := by
  by_cases h1 : n < 1
  · go_enter Try.func48, Try.ntmps48
    go_wp2
    go_ret2
    exact ⟨rfl, rfl⟩
  · have h2 : 8 < n := by omega
    go_enter Try.func48, Try.ntmps48
    go_wp2
    go_ret2
    exact ⟨rfl, rfl⟩

theorem Try.info134 : (Try.prog.info? 134).map (fun i => (i.zero, i.size, i.bytes)) = some (some (.agg #[.int .i64 0, .int .i64 0]), 2, 16) := by kernel_rfl

theorem make126 (w : World) (n : Nat) (h : n ≤ 8) : (Instr.makeSlice 126 (.int .i64 (n : Int)) (.int .i64 (n : Int))).run Try.prog w = .ok (.slice (some ⟨w.heap.size, 0, none⟩) n n) (w.alloc (.cells (stc (List.replicate n (0, 0))).toArray 134)) := by
  obtain ⟨i, hi, hzz⟩ := Option.map_eq_some_iff.1 Try.info134
  simp only [Prod.mk.injEq] at hzz
  obtain ⟨hz, hs, hb⟩ := hzz
  have := run_make (P := Try.prog) w 126 134 i _ Try.underlying126 hi hz .i64 .i64 n n (by omega) (Int.le_refl _) (by rw [hb]; omega) (by omega)
  rw [this, stc_replicate, hs, Int.toNat_natCast]
  show Result.ok _ (w.alloc (.cells (madeCells #[.int .i64 0, .int .i64 0] (n * 2)) 134)) = _
  rw [madeCells_two]

set_option maxRecDepth 100000 in
set_option maxHeartbeats 800000 in
theorem rsnew_ok (w : World) (n : Nat) (h : 1 ≤ n) (h' : n ≤ 8) :
    Calls Try.prog 48 #[.int .i64 n] w fun e w' => e = .returned (.tuple #[.pointer (some ⟨w.heap.size + 1, 0, none⟩), .int .i64 0]) ∧ StkIs 128 134 w' (w.heap.size + 1) w.heap.size (List.replicate n (0, 0)) ∧ Keeps [] w w' := by
  refine calls_hide fun R HR => ?_
  have hmk := make126 w n h'
  go_enter Try.func48, Try.ntmps48
  go_wp2
  try go_ret2
  refine HR.out _ _ ⟨rfl, ⟨?_, ?_, by simp, by simp; omega, by simpa using h', fun p hp => ?_⟩, ?_⟩
  · have := Row.new (w.alloc (.cells (stc (List.replicate n (0, 0))).toArray 134)) [.slice (some ⟨w.heap.size, 0, none⟩) (List.replicate n ((0 : Int), (0 : Int))).length (List.replicate n ((0 : Int), (0 : Int))).length] 128
    simpa using this
  · exact (Row.new w _ 134).alloc _
  · rw [(List.mem_replicate.1 hp).2]; exact Fine.zero
  · exact ((Keeps.refl _ _).alloc _).alloc _

set_option maxRecDepth 100000 in
set_option maxHeartbeats 800000 in
theorem rhas_any (w : World) (b bs : Nat) (L : List (Int × Int)) (h : StkIs 128 134 w b bs L) (c : Int) :
    Calls Try.prog 51 #[.pointer (some ⟨b, 0, none⟩), .int .i64 c] w fun e w' => e = .returned (.tuple #[.int .i64 (at2 L c).1, .int .i64 (at2 L c).2]) ∧ Keeps [] w w' := by
  refine calls_hide fun R HR => ?_
  have hd0 := h.hd.cell (i := 0) rfl
  have hl := h.len
  cases hc : okC L c with
  | true =>
    obtain ⟨k, rfl, hk⟩ := okC_true hc
    rw [at2_nat hk] at HR
    have c0 := h.el.cell (stc_get0 L k hk)
    have c1 := h.el.cell (stc_get1 L k hk)
    generalize L.getD k (0, 0) = p at *
    obtain ⟨g, n⟩ := p
    have HC := Lib.hid hc
    clear hc
    go_enter Try.func51, Try.ntmps51
    go_wp2_with (go_at_call 94; refine (rhas2_any w b bs L h k).mono ?_; rintro e w' ⟨rfl, rfl⟩; rw [HC.out])
    go_quiet (fail)
    go_wp2
    try go_ret2
    exact HR.out _ _ ⟨rfl, (Keeps.refl _ _).drewN _⟩
  | false =>
    have ha : at2 L c = (0, 0) := by simp [at2, hc]
    rw [ha] at HR
    have HC := Lib.hid hc
    clear hc ha
    go_enter Try.func51, Try.ntmps51
    go_wp2_with (go_at_call 94; refine (rhas2_any w b bs L h c).mono ?_; rintro e w' ⟨rfl, rfl⟩; rw [HC.out])
    try go_ret2
    exact HR.out _ _ ⟨rfl, Keeps.refl _ _⟩

set_option maxRecDepth 100000 in
set_option maxHeartbeats 800000 in
theorem rdrain_any (w : World) (b bs : Nat) (L : List (Int × Int)) (h : StkIs 128 134 w b bs L) (c : Int) :
    Calls Try.prog 92 #[.pointer (some ⟨b, 0, none⟩), .int .i64 c] w fun e w' => e = .returned (.tuple #[.int .i64 (at2 L c).1, .int .i64 (at2 L c).2]) ∧ StkIs 128 134 w' b bs (drainL L c) ∧ Keeps [bs] w w' := by
  refine calls_hide fun R HR => ?_
  have hd0 := h.hd.cell (i := 0) rfl
  have hl := h.len
  have hb0 := h.hd.lt
  cases hc : okC L c with
  | true =>
    obtain ⟨k, rfl, hk⟩ := okC_true hc
    have hd : drainL L k = L.set k (0, 0) := by simp [drainL, hc]
    rw [at2_nat hk, hd] at HR
    have c0 := h.el.cell (stc_get0 L k hk)
    have c1 := h.el.cell (stc_get1 L k hk)
    have f0 := h.el.free (k * 2)
    have f1 := h.el.free (k * 2 + 1)
    have hbs := h.el.lt
    generalize L.getD k (0, 0) = p at *
    obtain ⟨g, n⟩ := p
    have HC := Lib.hid hc
    clear hc hd
    go_enter Try.func92, Try.ntmps92
    go_wp2_with (go_at_call 94; refine (rhas2_any w b bs L h k).mono ?_; rintro e w' ⟨rfl, rfl⟩; rw [HC.out])
    go_quiet (fail)
    go_wp2
    try go_ret2
    exact HR.out _ _ ⟨rfl, (h.put k Fine.zero).keeps (((Keeps.refl [] _).alloc _).drewN _) (by simp) (by simp), ((((Keeps.refl _ _).set (by simp) _).set (by simp) _).alloc _).drewN _⟩
  | false =>
    have ha : at2 L c = (0, 0) := by simp [at2, hc]
    have hd : drainL L c = L := by simp [drainL, hc]
    rw [ha, hd] at HR
    have HC := Lib.hid hc
    clear hc ha hd
    go_enter Try.func92, Try.ntmps92
    go_wp2_with (go_at_call 94; refine (rhas2_any w b bs L h c).mono ?_; rintro e w' ⟨rfl, rfl⟩; rw [HC.out])
    try go_ret2
    exact HR.out _ _ ⟨rfl, h, Keeps.refl _ _⟩

set_option maxRecDepth 100000 in
set_option maxHeartbeats 800000 in
theorem rheld_any (w : World) (b bs : Nat) (L : List (Int × Int)) (h : StkIs 128 134 w b bs L) (g : Int) :
    Calls Try.prog 53 #[.pointer (some ⟨b, 0, none⟩), .int .i64 g] w fun e w' => e = .returned (.int .i64 (held L g)) ∧ Keeps [] w w' := by
  refine calls_hide fun R HR => ?_
  have c0 := h.hd.cell (i := 0) rfl
  have hl := h.len
  go_enter Try.func53, Try.ntmps53
  go_wp2_with fail
  go_loop [5, 6] (fun s i => ∃ j : Nat, j ≤ L.length ∧ i = .int .i64 j ∧ s = .int .i64 (heldTo L g j)) (fun _ i => L.length - (intOf i).toNat)
  case atStart => exact ⟨0, by omega, rfl, rfl⟩
  case round =>
    obtain ⟨j, hj, rfl, rfl⟩ := hrel
    have hb := heldTo_bd h g j hj
    by_cases hlt : j < L.length
    · have d0 := h.el.cell (stc_get0 L j hlt)
      have d1 := h.el.cell (stc_get1 L j hlt)
      have hf := h.at hlt
      have hstep : heldTo L g (j + 1) = heldTo L g j + if (L.getD j (0, 0)).1 = g then (L.getD j (0, 0)).2 else 0 := rfl
      generalize L.getD j (0, 0) = p at *
      obtain ⟨pg, pn⟩ := p
      obtain ⟨f1, f2, _, _⟩ := hf
      dsimp only at f1 f2 d0 d1 hstep
      by_cases hg : pg = g
      · rw [if_pos hg] at hstep
        have HS := Lib.hid hstep
        have hgb : (pg == g) = true := beq_iff_eq.2 hg
        clear hstep hg
        go_wp2
        go_round
        case rel => exact ⟨j + 1, by omega, by go_num, by rw [HS.out]⟩
        case measure => simp [intOf]; omega
      · rw [if_neg hg] at hstep
        have HS := Lib.hid hstep
        have hgb : (pg == g) = false := beq_eq_false_iff_ne.2 hg
        clear hstep hg
        go_wp2
        go_round
        case rel => exact ⟨j + 1, by omega, by go_num, by rw [HS.out, Int.add_zero]⟩
        case measure => simp [intOf]; omega
    · have hjl : j = L.length := by omega
      subst hjl
      go_wp2
      try go_ret
      exact HR.out _ _ ⟨rfl, Keeps.refl _ _⟩

set_option maxRecDepth 100000 in
set_option maxHeartbeats 800000 in
theorem rtake_any (w : World) (b bs : Nat) (L : List (Int × Int)) (h : StkIs 128 134 w b bs L) (c g n : Int) :
    Calls Try.prog 90 #[.pointer (some ⟨b, 0, none⟩), .int .i64 c, .int .i64 g, .int .i64 n] w fun e w' => e = .returned (.bool (takeB L c g n)) ∧ StkIs 128 134 w' b bs (takeL L c g n) ∧ Keeps [bs] w w' := by
  refine calls_hide fun R HR => ?_
  have hd0 := h.hd.cell (i := 0) rfl
  have hlen := h.len
  cases hc : okC L c with
  | false =>
    have ht : takeB L c g n = false := by simp [takeB, hc]
    have hl : takeL L c g n = L := by simp [takeL, ht]
    rw [ht, hl] at HR
    have HC := Lib.hid hc
    clear hc ht hl
    go_enter Try.func90, Try.ntmps90
    go_wp2_with (go_at_call 94; refine (rhas2_any w b bs L h c).mono ?_; rintro e w' ⟨rfl, rfl⟩; rw [HC.out])
    try go_ret
    exact HR.out _ _ ⟨rfl, h, Keeps.refl _ _⟩
  | true =>
    obtain ⟨k, rfl, hk⟩ := okC_true hc
    have ha := at2_nat hk
    have c0 := h.el.cell (stc_get0 L k hk)
    have c1 := h.el.cell (stc_get1 L k hk)
    have hf := h.at hk
    have ht : takeB L k g n = (decide (1 ≤ n) && (decide (n ≤ (L.getD k (0, 0)).2) && decide ((L.getD k (0, 0)).1 = g))) := by simp only [takeB, hc, ha, Bool.true_and]
    have hl : takeL L k g n = if takeB L k g n then L.set k (whole2 g ((L.getD k (0, 0)).2 - n)) else L := by simp only [takeL, ha, Int.toNat_natCast]
    rw [hl, ht] at HR
    generalize L.getD k (0, 0) = p at *
    obtain ⟨pg, pn⟩ := p
    have HF := Lib.hid hf
    have HC := Lib.hid hc
    obtain ⟨p1, p2, _, _⟩ := hf
    dsimp only at HR p1 p2 c0 c1
    clear hc ht hl ha
    by_cases h1 : 1 ≤ n
    · by_cases h2 : n ≤ pn
      · by_cases h3 : pg = g
        · have hgb : (pg != g) = false := by simp [h3]
          have hfin : Fine (whole2 g (pn - n)) := by
            have hF := HF.out
            obtain ⟨_, _, _, q4⟩ := hF
            have q5 := q4 (show (0 : Int) < pn by omega)
            dsimp only at q5
            exact Fine.whole (by omega) (by omega)
          have HG := Lib.hid hfin
          rw [decide_eq_true h1, decide_eq_true h2, decide_eq_true h3] at HR
          clear h3 hfin
          go_enter Try.func90, Try.ntmps90
          go_wp2_with (go_at_call 94; refine (rhas2_any w b bs L h k).mono ?_; rintro e w' ⟨rfl, rfl⟩; rw [HC.out])
          refine (rset_any w b bs L h k hk g (pn - n) HG.out).mono ?_
          rintro e w1 ⟨rfl, hs1, hk1⟩
          have HS := Lib.hid (And.intro hs1 hk1)
          clear hs1 hk1 c0 c1
          go_wp2
          try go_ret
          exact HR.out _ _ ⟨rfl, HS.out.1, HS.out.2⟩
        · have hgb : (pg != g) = true := by simp [h3]
          rw [decide_eq_true h1, decide_eq_true h2, decide_eq_false h3] at HR
          clear h3
          go_enter Try.func90, Try.ntmps90
          go_wp2_with (go_at_call 94; refine (rhas2_any w b bs L h k).mono ?_; rintro e w' ⟨rfl, rfl⟩; rw [HC.out])
          try go_ret
          exact HR.out _ _ ⟨rfl, h, Keeps.refl _ _⟩
      · rw [decide_eq_true h1, decide_eq_false h2] at HR
        go_enter Try.func90, Try.ntmps90
        go_wp2_with (go_at_call 94; refine (rhas2_any w b bs L h k).mono ?_; rintro e w' ⟨rfl, rfl⟩; rw [HC.out])
        try go_ret
        exact HR.out _ _ ⟨rfl, h, Keeps.refl _ _⟩
    · rw [decide_eq_false h1] at HR
      go_enter Try.func90, Try.ntmps90
      go_wp2_with (go_at_call 94; refine (rhas2_any w b bs L h k).mono ?_; rintro e w' ⟨rfl, rfl⟩; rw [HC.out])
      try go_ret
      exact HR.out _ _ ⟨rfl, h, Keeps.refl _ _⟩

end Go.Proofs.Ytlndpljhcempoaa
