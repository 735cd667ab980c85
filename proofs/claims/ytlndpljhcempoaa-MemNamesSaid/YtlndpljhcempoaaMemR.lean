/- The document's answer for a memory (wainscotref03), method by method: the same words, the same answers as the package mem. Condition: the reference's two blocks read as words and a count. -/
import Derived.Test.YtlndpljhcempoaaMemN
namespace Go.Proofs.Ytlndpljhcempoaa
open Go.RowKit

/-- The reference's memory: its block bm, its words' block bw, the words, the count. -/
structure RefIs (w : World) (bm bw : Nat) (ws : List Int) (cnt : Int) : Prop where
  hd : Row w bm 124 [.slice (some ⟨bw, 0, none⟩) ws.length ws.length, .int .i64 cnt]
  wr : Row w bw 29 (wd ws)
  ne : bm ≠ bw
  len : ws.length ≤ 4096

theorem RefIs.keeps {w w' : World} {bm bw : Nat} {ws : List Int} {cnt : Int} {S : List Nat} (h : RefIs w bm bw ws cnt) (hk : Keeps S w w') (h1 : bm ∉ S) (h2 : bw ∉ S) : RefIs w' bm bw ws cnt :=
  ⟨hk.row h.hd h1, hk.row h.wr h2, h.ne, h.len⟩

theorem RefIs.counted {w : World} {bm bw : Nat} {ws : List Int} {cnt : Int} (h : RefIs w bm bw ws cnt) (n : Int) : RefIs (w.setCell ⟨bm, 1, none⟩ (.int .i64 n)) bm bw ws n :=
  ⟨h.hd.set 1 _, h.wr.setOther (fun e => h.ne e.symm) _, h.ne, h.len⟩

theorem RefIs.set {w : World} {bm bw : Nat} {ws : List Int} {cnt : Int} (h : RefIs w bm bw ws cnt) (k : Nat) (x : Int) : RefIs (w.setCell ⟨bw, k, none⟩ (.int .u64 x)) bm bw (ws.set k x) cnt :=
  ⟨by simpa using h.hd.setOther (a := ⟨bw, k, none⟩) h.ne _, by rw [← wd_set]; exact h.wr.set k _, h.ne, by simpa using h.len⟩

theorem RefIs.drew {w : World} {bm bw : Nat} {ws : List Int} {cnt : Int} (h : RefIs w bm bw ws cnt) : RefIs w.drew bm bw ws cnt := ⟨h.hd, h.wr, h.ne, h.len⟩
theorem RefIs.drewN {w : World} {bm bw : Nat} {ws : List Int} {cnt : Int} (h : RefIs w bm bw ws cnt) (n : Nat) : RefIs (w.drewN n) bm bw ws cnt := ⟨h.hd, h.wr, h.ne, h.len⟩

set_option maxRecDepth 100000 in
set_option maxHeartbeats 400000 in
theorem rnew_bad (w : World) (n : Int) (h : n < 1 ∨ 4096 < n) :
    Calls Try.prog 29 #[.int .i64 n] w fun e w' => e = .returned (.tuple #[.pointer none, .int .i64 9]) ∧ w = w' := by
  by_cases h1 : n < 1
  · go_enter Try.func29, Try.ntmps29
    go_wp2
    go_ret2
    exact ⟨rfl, rfl⟩
  · have h2 : 4096 < n := by omega
    go_enter Try.func29, Try.ntmps29
    go_wp2
    go_ret2
    exact ⟨rfl, rfl⟩

set_option maxRecDepth 100000 in
set_option maxHeartbeats 400000 in
theorem rnew_ok (w : World) (n : Nat) (h : 1 ≤ n) (h' : n ≤ 4096) :
    Calls Try.prog 29 #[.int .i64 n] w fun e w' => e = .returned (.tuple #[.pointer (some ⟨w.heap.size + 1, 0, none⟩), .int .i64 0]) ∧ RefIs w' (w.heap.size + 1) w.heap.size (List.replicate n 0) 0 ∧ Keeps [] w w' := by
  refine calls_hide fun R HR => ?_
  have hmk := make22 w n h'
  go_enter Try.func29, Try.ntmps29
  go_wp2
  try go_ret2
  refine HR.out _ _ ⟨rfl, ⟨?_, ?_, by simp, by simpa using h'⟩, ?_⟩
  · have := Row.new (w.alloc (.cells (wd (List.replicate n 0)).toArray 29)) [.slice (some ⟨w.heap.size, 0, none⟩) (List.replicate n (0 : Int)).length (List.replicate n (0 : Int)).length, .int .i64 0] 124
    simpa using this
  · exact (Row.new w _ 29).alloc _
  · exact ((Keeps.refl _ _).alloc _).alloc _

set_option maxRecDepth 100000 in
set_option maxHeartbeats 400000 in
theorem rcount_any (w : World) (bm bw : Nat) (ws : List Int) (cnt : Int) (h : RefIs w bm bw ws cnt) :
    Calls Try.prog 32 #[.pointer (some ⟨bm, 0, none⟩)] w fun e w' => e = .returned (.int .i64 cnt) ∧ w = w' := by
  have hm0 := h.hd.cell (i := 1) rfl
  clear h
  go_enter Try.func32, Try.ntmps32
  go_wp2
  go_ret
  exact ⟨rfl, rfl⟩

/-! ### there -/

set_option maxRecDepth 100000 in
set_option maxHeartbeats 400000 in
theorem there_ok1 (w : World) (bm bw : Nat) (ws : List Int) (cnt : Int) (h : RefIs w bm bw ws cnt) (k : Nat) (hk : k + 1 ≤ ws.length) :
    Calls Try.prog 112 #[.pointer (some ⟨bm, 0, none⟩), .int .i64 k, .int .i64 1] w fun e w' => e = .returned (.int .i64 0) ∧ w.setCell ⟨bm, 1, none⟩ (.int .i64 (wrap64 (cnt + 1))) = w' := by
  have hm0 := h.hd.cell (i := 0) rfl
  have hm1 := h.hd.cell (i := 1) rfl
  have hf1 := h.hd.free 1
  have hlen := h.len
  clear h
  go_enter Try.func112, Try.ntmps112
  go_wp2
  go_ret
  exact ⟨rfl, rfl⟩

set_option maxRecDepth 100000 in
set_option maxHeartbeats 400000 in
theorem there_ok2 (w : World) (bm bw : Nat) (ws : List Int) (cnt : Int) (h : RefIs w bm bw ws cnt) (k : Nat) (hk : k + 2 ≤ ws.length) :
    Calls Try.prog 112 #[.pointer (some ⟨bm, 0, none⟩), .int .i64 k, .int .i64 2] w fun e w' => e = .returned (.int .i64 0) ∧ w.setCell ⟨bm, 1, none⟩ (.int .i64 (wrap64 (cnt + 1))) = w' := by
  have hm0 := h.hd.cell (i := 0) rfl
  have hm1 := h.hd.cell (i := 1) rfl
  have hf1 := h.hd.free 1
  have hlen := h.len
  clear h
  go_enter Try.func112, Try.ntmps112
  go_wp2
  go_ret
  exact ⟨rfl, rfl⟩

set_option maxRecDepth 100000 in
set_option maxHeartbeats 400000 in
theorem there_bad1 (w : World) (bm bw : Nat) (ws : List Int) (cnt : Int) (h : RefIs w bm bw ws cnt) (k : Int) (hk : inb ws k 1 = false) :
    Calls Try.prog 112 #[.pointer (some ⟨bm, 0, none⟩), .int .i64 k, .int .i64 1] w fun e w' => e = .returned (.int .i64 9) ∧ w = w' := by
  have hm0 := h.hd.cell (i := 0) rfl
  have hlen := h.len
  obtain ⟨_, _, hb⟩ := inb_len hk (by omega)
  clear h hk
  by_cases h0 : k < 0
  · go_enter Try.func112, Try.ntmps112
    go_wp2
    go_ret
    exact ⟨rfl, rfl⟩
  · have h1 : (ws.length : Int) ≤ k := by omega
    clear hb
    go_enter Try.func112, Try.ntmps112
    go_wp2
    go_ret
    exact ⟨rfl, rfl⟩

set_option maxRecDepth 100000 in
set_option maxHeartbeats 400000 in
theorem there_bad2 (w : World) (bm bw : Nat) (ws : List Int) (cnt : Int) (h : RefIs w bm bw ws cnt) (k : Int) (hk : inb ws k 2 = false) :
    Calls Try.prog 112 #[.pointer (some ⟨bm, 0, none⟩), .int .i64 k, .int .i64 2] w fun e w' => e = .returned (.int .i64 9) ∧ w = w' := by
  have hm0 := h.hd.cell (i := 0) rfl
  have hlen := h.len
  obtain ⟨_, _, hb⟩ := inb_len hk (by omega)
  clear h hk
  by_cases h0 : k < 0
  · go_enter Try.func112, Try.ntmps112
    go_wp2
    go_ret
    exact ⟨rfl, rfl⟩
  · by_cases h1 : (ws.length : Int) ≤ k
    · clear hb
      go_enter Try.func112, Try.ntmps112
      go_wp2
      go_ret
      exact ⟨rfl, rfl⟩
    · have h2 : (ws.length : Int) ≤ k + 1 := by omega
      clear hb
      go_enter Try.func112, Try.ntmps112
      go_wp2
      go_ret
      exact ⟨rfl, rfl⟩

/-! ### The methods -/

set_option maxRecDepth 100000 in
set_option maxHeartbeats 400000 in
/-- Load. -/
theorem rload_any (w : World) (bm bw : Nat) (ws : List Int) (cnt : Int) (h : RefIs w bm bw ws cnt) (i : Int) :
    Calls Try.prog 81 #[.pointer (some ⟨bm, 0, none⟩), .int .i64 i] w fun e w' => e = .returned (.tuple #[.int .u64 (ldV ws i), .int .i64 (errB (inb ws i 1))]) ∧ RefIs w' bm bw ws (cntN ws i 1 cnt) ∧ Keeps [bm, bw] w w' := by
  refine calls_hide fun R HR => ?_
  cases hb : inb ws i 1 with
  | true =>
    obtain ⟨k, rfl, hk1⟩ := inb_true hb
    have hv : ldV ws k = ws.getD k 0 := by simp [ldV, hb]
    have hn : cntN ws k 1 cnt = wrap64 (cnt + 1) := by simp [cntN, hb]
    rw [hv, hb, hn] at HR
    clear hb hv hn
    have h2 := h.counted (wrap64 (cnt + 1))
    have hm0 := h2.hd.cell (i := 0) rfl
    have hwk := h2.wr.cell (wd_get (k := k) (by omega))
    generalize ws.getD k 0 = y at *
    go_enter Try.func81, Try.ntmps81
    go_wp2_with (go_at_call 112; refine (there_ok1 w bm bw ws cnt h k hk1).mono ?_; rintro e w' ⟨rfl, rfl⟩)
    try go_ret2
    exact HR.out _ _ ⟨rfl, h2, (Keeps.refl _ _).set (by simp) _⟩
  | false =>
    have hv : ldV ws i = 0 := by simp [ldV, hb]
    have hn : cntN ws i 1 cnt = cnt := by simp [cntN, hb]
    rw [hv, hb, hn] at HR
    have HB := Lib.hid hb
    clear hb hv hn
    go_enter Try.func81, Try.ntmps81
    go_wp2_with (go_at_call 112; refine (there_bad1 w bm bw ws cnt h i HB.out).mono ?_; rintro e w' ⟨rfl, rfl⟩)
    try go_ret2
    exact HR.out _ _ ⟨rfl, h, Keeps.refl _ _⟩

set_option maxRecDepth 100000 in
set_option maxHeartbeats 400000 in
/-- Store. -/
theorem rstore_any (w : World) (bm bw : Nat) (ws : List Int) (cnt : Int) (h : RefIs w bm bw ws cnt) (i v : Int) :
    Calls Try.prog 82 #[.pointer (some ⟨bm, 0, none⟩), .int .i64 i, .int .u64 v] w fun e w' => e = .returned (.int .i64 (errB (inb ws i 1))) ∧ RefIs w' bm bw (stW ws i v) (cntN ws i 1 cnt) ∧ Keeps [bm, bw] w w' := by
  refine calls_hide fun R HR => ?_
  cases hb : inb ws i 1 with
  | true =>
    obtain ⟨k, rfl, hk1⟩ := inb_true hb
    have hv : stW ws k v = ws.set k v := by simp [stW, hb]
    have hn : cntN ws k 1 cnt = wrap64 (cnt + 1) := by simp [cntN, hb]
    rw [hv, hb, hn] at HR
    clear hb hv hn
    have h2 := h.counted (wrap64 (cnt + 1))
    have hm0 := h2.hd.cell (i := 0) rfl
    have hwk := h2.wr.cell (wd_get (k := k) (by omega))
    have hf := h.wr.free k
    generalize ws.getD k 0 = y at *
    go_enter Try.func82, Try.ntmps82
    go_wp2_with (go_at_call 112; refine (there_ok1 w bm bw ws cnt h k hk1).mono ?_; rintro e w' ⟨rfl, rfl⟩)
    try go_ret
    exact HR.out _ _ ⟨rfl, h2.set k v, ((Keeps.refl _ _).set (by simp) _).set (by simp) _⟩
  | false =>
    have hv : stW ws i v = ws := by simp [stW, hb]
    have hn : cntN ws i 1 cnt = cnt := by simp [cntN, hb]
    rw [hv, hb, hn] at HR
    have HB := Lib.hid hb
    clear hb hv hn
    go_enter Try.func82, Try.ntmps82
    go_wp2_with (go_at_call 112; refine (there_bad1 w bm bw ws cnt h i HB.out).mono ?_; rintro e w' ⟨rfl, rfl⟩)
    try go_ret
    exact HR.out _ _ ⟨rfl, h, Keeps.refl _ _⟩

set_option maxRecDepth 100000 in
set_option maxHeartbeats 400000 in
/-- Add. -/
theorem radd_any (w : World) (bm bw : Nat) (ws : List Int) (cnt : Int) (h : RefIs w bm bw ws cnt) (i n : Int) :
    Calls Try.prog 85 #[.pointer (some ⟨bm, 0, none⟩), .int .i64 i, .int .u64 n] w fun e w' => e = .returned (.tuple #[.int .u64 (ldV ws i), .int .i64 (errB (inb ws i 1))]) ∧ RefIs w' bm bw (addW ws i n) (cntN ws i 1 cnt) ∧ Keeps [bm, bw] w w' := by
  refine calls_hide fun R HR => ?_
  cases hb : inb ws i 1 with
  | true =>
    obtain ⟨k, rfl, hk1⟩ := inb_true hb
    have hv : ldV ws k = ws.getD k 0 := by simp [ldV, hb]
    have hw : addW ws k n = ws.set k (IntKind.u64.wrap (ws.getD k 0 + n)) := by simp [addW, hb]
    have hn : cntN ws k 1 cnt = wrap64 (cnt + 1) := by simp [cntN, hb]
    rw [hv, hb, hn, hw] at HR
    clear hb hv hn hw
    have h2 := h.counted (wrap64 (cnt + 1))
    have hm0 := h2.hd.cell (i := 0) rfl
    have hwk := h2.wr.cell (wd_get (k := k) (by omega))
    have hf := h.wr.free k
    generalize ws.getD k 0 = y at *
    go_enter Try.func85, Try.ntmps85
    go_wp2_with (go_at_call 112; refine (there_ok1 w bm bw ws cnt h k hk1).mono ?_; rintro e w' ⟨rfl, rfl⟩)
    try go_ret2
    exact HR.out _ _ ⟨rfl, h2.set k _, ((Keeps.refl _ _).set (by simp) _).set (by simp) _⟩
  | false =>
    have hv : ldV ws i = 0 := by simp [ldV, hb]
    have hw : addW ws i n = ws := by simp [addW, hb]
    have hn : cntN ws i 1 cnt = cnt := by simp [cntN, hb]
    rw [hv, hb, hn, hw] at HR
    have HB := Lib.hid hb
    clear hb hv hn hw
    go_enter Try.func85, Try.ntmps85
    go_wp2_with (go_at_call 112; refine (there_bad1 w bm bw ws cnt h i HB.out).mono ?_; rintro e w' ⟨rfl, rfl⟩)
    try go_ret2
    exact HR.out _ _ ⟨rfl, h, Keeps.refl _ _⟩

set_option maxRecDepth 100000 in
set_option maxHeartbeats 400000 in
/-- Cas. -/
theorem rcas_any (w : World) (bm bw : Nat) (ws : List Int) (cnt : Int) (h : RefIs w bm bw ws cnt) (i old to : Int) :
    Calls Try.prog 83 #[.pointer (some ⟨bm, 0, none⟩), .int .i64 i, .int .u64 old, .int .u64 to] w fun e w' => e = .returned (.tuple #[.bool (casB ws i old), .int .i64 (errB (inb ws i 1))]) ∧ RefIs w' bm bw (casW ws i old to) (cntN ws i 1 cnt) ∧ Keeps [bm, bw] w w' := by
  refine calls_hide fun R HR => ?_
  cases hb : inb ws i 1 with
  | true =>
    obtain ⟨k, rfl, hk1⟩ := inb_true hb
    have hv : casB ws k old = (ws.getD k 0 == old) := by simp [casB, hb]
    have hw : casW ws k old to = if ws.getD k 0 = old then ws.set k to else ws := by simp [casW, hv]
    have hn : cntN ws k 1 cnt = wrap64 (cnt + 1) := by simp [cntN, hb]
    rw [hv, hb, hn, hw] at HR
    clear hb hv hn hw
    have h2 := h.counted (wrap64 (cnt + 1))
    have hm0 := h2.hd.cell (i := 0) rfl
    have hwk := h2.wr.cell (wd_get (k := k) (by omega))
    have hf := h.wr.free k
    generalize ws.getD k 0 = y at *
    by_cases hy : y = old
    · have hb : (y != old) = false := by simp [hy]
      rw [beq_iff_eq.2 hy, if_pos hy] at HR
      clear hy
      go_enter Try.func83, Try.ntmps83
      go_wp2_with (go_at_call 112; refine (there_ok1 w bm bw ws cnt h k hk1).mono ?_; rintro e w' ⟨rfl, rfl⟩)
      try go_ret2
      exact HR.out _ _ ⟨rfl, h2.set k _, ((Keeps.refl _ _).set (by simp) _).set (by simp) _⟩
    · have hb : (y != old) = true := by simp [hy]
      rw [beq_eq_false_iff_ne.2 hy, if_neg hy] at HR
      clear hy
      go_enter Try.func83, Try.ntmps83
      go_wp2_with (go_at_call 112; refine (there_ok1 w bm bw ws cnt h k hk1).mono ?_; rintro e w' ⟨rfl, rfl⟩)
      try go_ret2
      exact HR.out _ _ ⟨rfl, h2, ((Keeps.refl _ _).set (by simp) _)⟩
  | false =>
    have hv : casB ws i old = false := by simp [casB, hb]
    have hw : casW ws i old to = ws := by simp [casW, hv]
    have hn : cntN ws i 1 cnt = cnt := by simp [cntN, hb]
    rw [hv, hb, hn, hw] at HR
    have HB := Lib.hid hb
    clear hb hv hn hw
    go_enter Try.func83, Try.ntmps83
    go_wp2_with (go_at_call 112; refine (there_bad1 w bm bw ws cnt h i HB.out).mono ?_; rintro e w' ⟨rfl, rfl⟩)
    try go_ret2
    exact HR.out _ _ ⟨rfl, h, Keeps.refl _ _⟩

set_option maxRecDepth 100000 in
set_option maxHeartbeats 400000 in
/-- Cas2. -/
theorem rcas2_any (w : World) (bm bw : Nat) (ws : List Int) (cnt : Int) (h : RefIs w bm bw ws cnt) (i old second to other : Int) :
    Calls Try.prog 84 #[.pointer (some ⟨bm, 0, none⟩), .int .i64 i, .int .u64 old, .int .u64 second, .int .u64 to, .int .u64 other] w
      fun e w' => e = .returned (.tuple #[.bool (cas2B ws i old second), .int .i64 (errB (inb ws i 2))]) ∧ RefIs w' bm bw (cas2W ws i old second to other) (cntN ws i 2 cnt) ∧ Keeps [bm, bw] w w' := by
  refine calls_hide fun R HR => ?_
  cases hb : inb ws i 2 with
  | true =>
    obtain ⟨k, rfl, hk1⟩ := inb_true hb
    have hv : cas2B ws k old second = (ws.getD k 0 == old && ws.getD (k + 1) 0 == second) := by simp [cas2B, hb]
    have hw : cas2W ws k old second to other = if ws.getD k 0 = old ∧ ws.getD (k + 1) 0 = second then (ws.set k to).set (k + 1) other else ws := by simp [cas2W, hv]
    have hn : cntN ws k 2 cnt = wrap64 (cnt + 1) := by simp [cntN, hb]
    rw [hv, hb, hn, hw] at HR
    clear hb hv hn hw
    have h2 := h.counted (wrap64 (cnt + 1))
    have hlen := h.len
    have hm0 := h2.hd.cell (i := 0) rfl
    have hne := h.ne
    have hwk := h2.wr.cell (wd_get (k := k) (by omega))
    have hwk' := h2.wr.cell (wd_get (k := k + 1) (by omega))
    have hf := h.wr.free k
    have hf' := h.wr.free (k + 1)
    generalize ws.getD k 0 = y at *
    generalize ws.getD (k + 1) 0 = z at *
    by_cases hyz : y = old ∧ z = second
    · have hb : (y != old) = false := by simp [hyz.1]
      have hb' : (z != second) = false := by simp [hyz.2]
      rw [beq_iff_eq.2 hyz.1, beq_iff_eq.2 hyz.2, if_pos hyz] at HR
      clear hyz
      go_enter Try.func84, Try.ntmps84
      go_wp2_with (go_at_call 112; refine (there_ok2 w bm bw ws cnt h k hk1).mono ?_; rintro e w' ⟨rfl, rfl⟩)
      try go_ret2
      exact HR.out _ _ ⟨rfl, (h2.set k _).set (k + 1) _, (((Keeps.refl _ _).set (by simp) _).set (by simp) _).set (by simp) _⟩
    · by_cases hy : y = old
      · have hb : (y != old) = false := by simp [hy]
        have hb' : (z != second) = true := by simp; exact fun e => hyz ⟨hy, e⟩
        rw [beq_iff_eq.2 hy, beq_eq_false_iff_ne.2 (fun e => hyz ⟨hy, e⟩), if_neg hyz] at HR
        clear hyz hy
        go_enter Try.func84, Try.ntmps84
        go_wp2_with (go_at_call 112; refine (there_ok2 w bm bw ws cnt h k hk1).mono ?_; rintro e w' ⟨rfl, rfl⟩)
        try go_ret2
        exact HR.out _ _ ⟨rfl, h2, ((Keeps.refl _ _).set (by simp) _)⟩
      · have hb : (y != old) = true := by simp [hy]
        rw [beq_eq_false_iff_ne.2 hy, if_neg hyz, Bool.false_and] at HR
        clear hyz hy
        go_enter Try.func84, Try.ntmps84
        go_wp2_with (go_at_call 112; refine (there_ok2 w bm bw ws cnt h k hk1).mono ?_; rintro e w' ⟨rfl, rfl⟩)
        try go_ret2
        exact HR.out _ _ ⟨rfl, h2, ((Keeps.refl _ _).set (by simp) _)⟩
  | false =>
    have hv : cas2B ws i old second = false := by simp [cas2B, hb]
    have hw : cas2W ws i old second to other = ws := by simp [cas2W, hv]
    have hn : cntN ws i 2 cnt = cnt := by simp [cntN, hb]
    rw [hv, hb, hn, hw] at HR
    have HB := Lib.hid hb
    clear hb hv hn hw
    go_enter Try.func84, Try.ntmps84
    go_wp2_with (go_at_call 112; refine (there_bad2 w bm bw ws cnt h i HB.out).mono ?_; rintro e w' ⟨rfl, rfl⟩)
    try go_ret2
    exact HR.out _ _ ⟨rfl, h, Keeps.refl _ _⟩

set_option maxRecDepth 100000 in
set_option maxHeartbeats 400000 in
/-- Words. -/
theorem rwords_any (w : World) (bm bw : Nat) (ws : List Int) (cnt : Int) (h : RefIs w bm bw ws cnt) (h0 : 0 < ws.length) :
    Calls Try.prog 36 #[.pointer (some ⟨bm, 0, none⟩)] w fun e w' => ∃ v, e = .returned v ∧ WordsAt w' v ws w.heap.size ∧ Keeps [] w w' := by
  refine calls_hide fun R HR => ?_
  obtain ⟨i0, hi, hz0, hz1, hz2⟩ := info_parts Try.info29
  have hm0 := h.hd.cell (i := 0) rfl
  have hr := h.wr
  have hl := h.len
  clear h
  go_enter Try.func36, Try.ntmps36
  go_wp2_with (at_builtin; refine wpList_append_grows _ rfl _ _ 22 rfl 29 i0 (.int .u64 0) 1 8 Try.underlying22 hi hz0 hz1 hz2 rfl (by decide) _ 0 0 [] rfl ?_ rfl ?_ ⟨bw, 0, none⟩ ws.length ws.length (wd ws) rfl ?_ ?_ ?_ ?_ ?_ ?_ ?_)
  · intro b hb; cases hb
  · simp [wd]
  · intro j u hj; rw [Addr.add_lit, Nat.zero_add]; exact hr.cell hj
  · intro u hu; simp only [wd, List.mem_map] at hu; obtain ⟨x, _, rfl⟩ := hu; rfl
  · omega
  · unfold maxLen; omega
  · omega
  intro v1 w1 hown hgrow
  obtain ⟨g, cap, rest, rfl, hg, hrow, _, _⟩ := row_of_owns hown h0
  have HP := Lib.hid (And.intro hg (And.intro hrow hgrow))
  clear hown hgrow hg hrow hr
  go_wp2
  try go_ret
  exact HR.out _ _ ⟨_, rfl, ⟨g, cap, rest, rfl, by have := HP.out.1; omega, HP.out.2.1⟩, Keeps.ofGrown HP.out.2.2⟩

end Go.Proofs.Ytlndpljhcempoaa
