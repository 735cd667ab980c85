/- The package stock, method by method: what each call answers and leaves, for every stock that reads as a list of pairs; of no stock. Condition: the stock's blocks read so. -/
import Derived.Test.YtlndpljhcempoaaStkA
import Derived.RegionTactic
import Derived.BigRegion
import Derived.Deep.QuietTactic
import Derived.BigQuiet
import Derived.Deep.OwnRows
namespace Go.Proofs.Ytlndpljhcempoaa
open Go.RowKit

/-- No stock: nil, or one that was never made. -/
def NoStk (w : World) (v : Value) : Prop := v = .pointer none ∨ ∃ b, v = .pointer (some ⟨b, 0, none⟩) ∧ Row w b 93 [.slice none 0 0]

theorem NoStk.keeps {w w' : World} {v : Value} {S : List Nat} (h : NoStk w v) (hk : Keeps S w w') (hS : ∀ x ∈ S, w.heap.size ≤ x) : NoStk w' v := by
  rcases h with h | ⟨b, h, hr⟩
  · exact .inl h
  · exact .inr ⟨b, h, hk.row hr (fun hb => by have := hS b hb; have := hr.lt; omega)⟩

/-! ### of, whole -/

set_option maxRecDepth 100000 in
set_option maxHeartbeats 400000 in
theorem of_ok (w : World) (b bs : Nat) (L : List (Int × Int)) (h : StkIs 93 132 w b bs L) (k : Nat) (hk : k < L.length) :
    Calls Try.prog 93 #[.pointer (some ⟨b, 0, none⟩), .int .i64 k] w fun e w' => e = .returned (.pointer (some ⟨bs, k * 2, none⟩)) ∧ w = w' := by
  have c0 := h.hd.cell (i := 0) rfl
  have hl := h.len
  clear h
  go_enter Try.func93, Try.ntmps93
  go_wp2
  go_ret
  exact ⟨rfl, rfl⟩

set_option maxRecDepth 100000 in
set_option maxHeartbeats 400000 in
theorem of_bad (w : World) (b bs : Nat) (L : List (Int × Int)) (h : StkIs 93 132 w b bs L) (c : Int) (hc : okC L c = false) :
    Calls Try.prog 93 #[.pointer (some ⟨b, 0, none⟩), .int .i64 c] w fun e w' => e = .returned (.pointer none) ∧ w = w' := by
  have c0 := h.hd.cell (i := 0) rfl
  have hl := h.len
  have hd := okC_false hc
  clear h hc
  by_cases h0 : c < 0
  · go_enter Try.func93, Try.ntmps93
    go_wp2
    go_ret
    exact ⟨rfl, rfl⟩
  · have h1 : (L.length : Int) ≤ c := by omega
    clear hd
    go_enter Try.func93, Try.ntmps93
    go_wp2
    go_ret
    exact ⟨rfl, rfl⟩

set_option maxRecDepth 100000 in
set_option maxHeartbeats 400000 in
theorem of_none (w : World) (v : Value) (h : NoStk w v) (c : Int) :
    Calls Try.prog 93 #[v, .int .i64 c] w fun e w' => e = .returned (.pointer none) ∧ w = w' := by
  rcases h with rfl | ⟨b, rfl, hr⟩
  · go_enter Try.func93, Try.ntmps93
    go_wp2
    go_ret
    exact ⟨rfl, rfl⟩
  · have c0 := hr.cell (i := 0) rfl
    clear hr
    by_cases h0 : c < 0
    · go_enter Try.func93, Try.ntmps93
      go_wp2
      go_ret
      exact ⟨rfl, rfl⟩
    · go_enter Try.func93, Try.ntmps93
      go_wp2
      go_ret
      exact ⟨rfl, rfl⟩

set_option maxRecDepth 100000 in
set_option maxHeartbeats 400000 in
theorem whole_any (w : World) (g n : Int) :
    Calls Try.prog 95 #[.int .i64 g, .int .i64 n] w fun e w' => e = .returned (.agg #[.int .i64 (whole2 g n).1, .int .i64 (whole2 g n).2]) ∧ Keeps [] w w' := by
  refine calls_hide fun R HR => ?_
  by_cases hn : n = 0
  · have hb : (n == 0) = true := beq_iff_eq.2 hn
    rw [whole2, if_pos hn] at HR
    clear hn
    go_enter Try.func95, Try.ntmps95
    go_wp2
    exact bodyPost_ret (v := .agg #[.int .i64 0, .int .i64 0]) (by simp [results, Try.results95, go_sem]) rfl (HR.out _ _ ⟨rfl, (Keeps.refl _ _).alloc _⟩)
  · have hb : (n == 0) = false := beq_eq_false_iff_ne.2 hn
    rw [whole2, if_neg hn] at HR
    clear hn
    go_enter Try.func95, Try.ntmps95
    go_wp2
    exact bodyPost_ret (v := .agg #[.int .i64 g, .int .i64 n]) (by simp [results, Try.results95, go_sem]) rfl (HR.out _ _ ⟨rfl, (Keeps.refl _ _).alloc _⟩)

/-! ### New -/

theorem Try.info132 : (Try.prog.info? 132).map (fun i => (i.zero, i.size, i.bytes)) = some (some (.agg #[.int .i64 0, .int .i64 0]), 2, 16) := by kernel_rfl

theorem madeCells_two (z : Value) (n : Nat) : madeCells #[z, z] n = (List.replicate n z).toArray := by
  apply Array.ext
  · simp [madeCells]
  · intro i h1 h2
    have h : i % 2 = 0 ∨ i % 2 = 1 := by omega
    simp [madeCells]
    rcases h with h | h <;> simp [h]

theorem make91 (w : World) (n : Nat) (h : n ≤ 8) : (Instr.makeSlice 91 (.int .i64 (n : Int)) (.int .i64 (n : Int))).run Try.prog w = .ok (.slice (some ⟨w.heap.size, 0, none⟩) n n) (w.alloc (.cells (stc (List.replicate n (0, 0))).toArray 132)) := by
  obtain ⟨i, hi, hzz⟩ := Option.map_eq_some_iff.1 Try.info132
  simp only [Prod.mk.injEq] at hzz
  obtain ⟨hz, hs, hb⟩ := hzz
  have := run_make (P := Try.prog) w 91 132 i _ Try.underlying91 hi hz .i64 .i64 n n (by omega) (Int.le_refl _) (by rw [hb]; omega) (by omega)
  rw [this, stc_replicate, hs, Int.toNat_natCast]
  show Result.ok _ (w.alloc (.cells (madeCells #[.int .i64 0, .int .i64 0] (n * 2)) 132)) = _
  rw [madeCells_two]

set_option maxRecDepth 100000 in
set_option maxHeartbeats 400000 in
theorem snew_ok (w : World) (n : Nat) (h : 1 ≤ n) (h' : n ≤ 8) :
    Calls Try.prog 47 #[.int .i64 n] w fun e w' => e = .returned (.tuple #[.pointer (some ⟨w.heap.size + 1, 0, none⟩), .int .i64 0]) ∧ StkIs 93 132 w' (w.heap.size + 1) w.heap.size (List.replicate n (0, 0)) ∧ Keeps [] w w' := by
  refine calls_hide fun R HR => ?_
  have hmk := make91 w n h'
  go_enter Try.func47, Try.ntmps47
  go_wp2
  try go_ret2
  refine HR.out _ _ ⟨rfl, ⟨?_, ?_, by simp, by simp; omega, by simpa using h', fun p hp => ?_⟩, ?_⟩
  · have := Row.new (w.alloc (.cells (stc (List.replicate n (0, 0))).toArray 132)) [.slice (some ⟨w.heap.size, 0, none⟩) (List.replicate n ((0 : Int), (0 : Int))).length (List.replicate n ((0 : Int), (0 : Int))).length] 93
    simpa using this
  · exact (Row.new w _ 132).alloc _
  · rw [(List.mem_replicate.1 hp).2]; exact Fine.zero
  · exact ((Keeps.refl _ _).alloc _).alloc _

set_option maxRecDepth 100000 in
set_option maxHeartbeats 400000 in
theorem snew_bad (w : World) (n : Int) (h : n < 1 ∨ 8 < n) :
    Calls Try.prog 47 #[.int .i64 n] w fun e w' => e = .returned (.tuple #[.pointer none, .int .i64 2]) ∧ w = w' := by
  by_cases h1 : n < 1
  · go_enter Try.func47, Try.ntmps47
    go_wp2
    go_ret2
    exact ⟨rfl, rfl⟩
  · have h2 : 8 < n := by omega
    go_enter Try.func47, Try.ntmps47
    go_wp2
    go_ret2
    exact ⟨rfl, rfl⟩

/-! ### Has, Drain, Held -/

set_option maxRecDepth 100000 in
set_option maxHeartbeats 400000 in
theorem has_any (w : World) (b bs : Nat) (L : List (Int × Int)) (h : StkIs 93 132 w b bs L) (c : Int) :
    Calls Try.prog 50 #[.pointer (some ⟨b, 0, none⟩), .int .i64 c] w fun e w' => e = .returned (.tuple #[.int .i64 (at2 L c).1, .int .i64 (at2 L c).2]) ∧ Keeps [] w w' := by
  refine calls_hide fun R HR => ?_
  cases hc : okC L c with
  | true =>
    obtain ⟨k, rfl, hk⟩ := okC_true hc
    rw [at2_nat hk] at HR
    have c0 := h.el.cell (stc_get0 L k hk)
    have c1 := h.el.cell (stc_get1 L k hk)
    generalize L.getD k (0, 0) = p at *
    obtain ⟨g, n⟩ := p
    clear hc
    go_enter Try.func50, Try.ntmps50
    go_wp2_with (go_at_call 93; refine (of_ok w b bs L h k hk).mono ?_; rintro e w' ⟨rfl, rfl⟩)
    go_quiet (fail)
    go_wp2
    try go_ret2
    exact HR.out _ _ ⟨rfl, (Keeps.refl _ _).drewN _⟩
  | false =>
    have ha : at2 L c = (0, 0) := by simp [at2, hc]
    rw [ha] at HR
    have HC := Lib.hid hc
    clear hc ha
    go_enter Try.func50, Try.ntmps50
    go_wp2_with (go_at_call 93; refine (of_bad w b bs L h c HC.out).mono ?_; rintro e w' ⟨rfl, rfl⟩)
    try go_ret2
    exact HR.out _ _ ⟨rfl, Keeps.refl _ _⟩

set_option maxRecDepth 100000 in
set_option maxHeartbeats 400000 in
theorem has_none (w : World) (v : Value) (h : NoStk w v) (c : Int) :
    Calls Try.prog 50 #[v, .int .i64 c] w fun e w' => e = .returned (.tuple #[.int .i64 0, .int .i64 0]) ∧ Keeps [] w w' := by
  refine calls_hide fun R HR => ?_
  go_enter Try.func50, Try.ntmps50
  go_wp2_with (go_at_call 93; refine (of_none w v h c).mono ?_; rintro e w' ⟨rfl, rfl⟩)
  try go_ret2
  exact HR.out _ _ ⟨rfl, Keeps.refl _ _⟩

set_option maxRecDepth 100000 in
set_option maxHeartbeats 400000 in
theorem drain_any (w : World) (b bs : Nat) (L : List (Int × Int)) (h : StkIs 93 132 w b bs L) (c : Int) :
    Calls Try.prog 57 #[.pointer (some ⟨b, 0, none⟩), .int .i64 c] w fun e w' => e = .returned (.tuple #[.int .i64 (at2 L c).1, .int .i64 (at2 L c).2]) ∧ StkIs 93 132 w' b bs (drainL L c) ∧ Keeps [bs] w w' := by
  refine calls_hide fun R HR => ?_
  cases hc : okC L c with
  | true =>
    obtain ⟨k, rfl, hk⟩ := okC_true hc
    have hd : drainL L k = L.set k (0, 0) := by simp [drainL, hc]
    rw [at2_nat hk, hd] at HR
    have c0 := h.el.cell (stc_get0 L k hk)
    have c1 := h.el.cell (stc_get1 L k hk)
    have f0 := h.el.free (k * 2)
    have f1 := h.el.free (k * 2 + 1)
    have hbs := h.el.lt
    generalize L.getD k (0, 0) = p at *
    obtain ⟨g, n⟩ := p
    clear hc hd
    go_enter Try.func57, Try.ntmps57
    go_wp2_with (go_at_call 93; refine (of_ok w b bs L h k hk).mono ?_; rintro e w' ⟨rfl, rfl⟩)
    go_quiet (fail)
    go_wp2
    try go_ret2
    exact HR.out _ _ ⟨rfl, (h.put k Fine.zero).keeps (((Keeps.refl [] _).alloc _).drewN _) (by simp) (by simp), ((((Keeps.refl _ _).set (by simp) _).set (by simp) _).alloc _).drewN _⟩
  | false =>
    have ha : at2 L c = (0, 0) := by simp [at2, hc]
    have hd : drainL L c = L := by simp [drainL, hc]
    rw [ha, hd] at HR
    have HC := Lib.hid hc
    clear hc ha hd
    go_enter Try.func57, Try.ntmps57
    go_wp2_with (go_at_call 93; refine (of_bad w b bs L h c HC.out).mono ?_; rintro e w' ⟨rfl, rfl⟩)
    try go_ret2
    exact HR.out _ _ ⟨rfl, h, Keeps.refl _ _⟩

set_option maxRecDepth 100000 in
set_option maxHeartbeats 400000 in
theorem drain_none (w : World) (v : Value) (h : NoStk w v) (c : Int) :
    Calls Try.prog 57 #[v, .int .i64 c] w fun e w' => e = .returned (.tuple #[.int .i64 0, .int .i64 0]) ∧ Keeps [] w w' := by
  refine calls_hide fun R HR => ?_
  go_enter Try.func57, Try.ntmps57
  go_wp2_with (go_at_call 93; refine (of_none w v h c).mono ?_; rintro e w' ⟨rfl, rfl⟩)
  try go_ret2
  exact HR.out _ _ ⟨rfl, Keeps.refl _ _⟩

set_option maxRecDepth 100000 in
set_option maxHeartbeats 400000 in
theorem held_any (w : World) (b bs : Nat) (L : List (Int × Int)) (h : StkIs 93 132 w b bs L) (g : Int) :
    Calls Try.prog 52 #[.pointer (some ⟨b, 0, none⟩), .int .i64 g] w fun e w' => e = .returned (.int .i64 (held L g)) ∧ Keeps [] w w' := by
  refine calls_hide fun R HR => ?_
  have c0 := h.hd.cell (i := 0) rfl
  have hl := h.len
  go_enter Try.func52, Try.ntmps52
  go_wp2_with fail
  go_loopw [4, 14] (fun s i wr => ∃ j : Nat, j ≤ L.length ∧ i = .int .i64 j ∧ s = .int .i64 (heldTo L g j) ∧ Keeps [] w wr) (fun _ i _ => L.length - (intOf i).toNat)
  case atStart => exact ⟨0, by omega, rfl, rfl, Keeps.refl _ _⟩
  case round =>
    obtain ⟨j, hj, rfl, rfl, hkr⟩ := hrel
    have hb := heldTo_bd h g j hj
    by_cases hlt : j < L.length
    · have hs := h.keeps hkr (by simp) (by simp)
      have d0 := hs.el.cell (stc_get0 L j hlt)
      have d1 := hs.el.cell (stc_get1 L j hlt)
      have hf := h.at hlt
      have hbs := hs.el.lt
      have hstep : heldTo L g (j + 1) = heldTo L g j + if (L.getD j (0, 0)).1 = g then (L.getD j (0, 0)).2 else 0 := rfl
      generalize L.getD j (0, 0) = p at *
      obtain ⟨pg, pn⟩ := p
      obtain ⟨f1, f2, _, _⟩ := hf
      dsimp only at f1 f2 d0 d1 hstep
      by_cases hg : pg = g
      · rw [if_pos hg] at hstep
        have HS := Lib.hid (And.intro hstep hkr)
        have hgb : (pg == g) = true := beq_iff_eq.2 hg
        clear hstep hkr hs hg c0
        go_wp2
        go_roundw
        case rel => exact ⟨j + 1, by omega, by go_num, by rw [HS.out.1], HS.out.2.alloc _⟩
        case measure => simp [intOf]; omega
      · rw [if_neg hg] at hstep
        have HS := Lib.hid (And.intro hstep hkr)
        have hgb : (pg == g) = false := beq_eq_false_iff_ne.2 hg
        clear hstep hkr hs hg c0
        go_wp2
        go_roundw
        case rel => exact ⟨j + 1, by omega, by go_num, by rw [HS.out.1, Int.add_zero], HS.out.2.alloc _⟩
        case measure => simp [intOf]; omega
    · have hjl : j = L.length := by omega
      subst hjl
      have HS := Lib.hid hkr
      clear hkr c0
      go_wp2
      try go_ret
      exact HR.out _ _ ⟨rfl, HS.out⟩

set_option maxRecDepth 100000 in
set_option maxHeartbeats 400000 in
theorem held_none (w : World) (v : Value) (h : NoStk w v) (g : Int) :
    Calls Try.prog 52 #[v, .int .i64 g] w fun e w' => e = .returned (.int .i64 0) ∧ Keeps [] w w' := by
  rcases h with rfl | ⟨b, rfl, hr⟩
  · go_enter Try.func52, Try.ntmps52
    go_wp2
    go_ret
    exact ⟨rfl, Keeps.refl _ _⟩
  · have c0 := hr.cell (i := 0) rfl
    clear hr
    go_enter Try.func52, Try.ntmps52
    go_wp2_with fail
    refine wp_loop_rounds 1 ?_
    rw [rounds_succ]
    go_wp2
    go_ret
    exact ⟨rfl, Keeps.refl _ _⟩

end Go.Proofs.Ytlndpljhcempoaa
