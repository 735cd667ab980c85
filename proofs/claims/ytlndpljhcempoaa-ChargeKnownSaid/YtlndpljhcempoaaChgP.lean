/- The package charge, what is asked ahead of each call. Condition: the counter's block reads so; the path lies elsewhere. -/
import Derived.Test.YtlndpljhcempoaaChgA
import Derived.RegionTactic
import Derived.BigRegion
import Derived.Deep.QuietTactic
import Derived.BigQuiet
import Derived.Deep.OwnRows
namespace Go.Proofs.Ytlndpljhcempoaa
open Go.RowKit

/-- No counters: nil, or some that were never made. -/
def NoChg (w : World) (v : Value) : Prop := v = .pointer none ∨ ∃ b, v = .pointer (some ⟨b, 0, none⟩) ∧ w.cell? ⟨b, 0, none⟩ = some (.bool false) ∧ b < w.heap.size

theorem NoChg.keeps {w w' : World} {v : Value} {S : List Nat} (h : NoChg w v) (hk : Keeps S w w') (hS : ∀ x ∈ S, w.heap.size ≤ x) : NoChg w' v := by
  rcases h with h | ⟨b, h, hr, hb⟩
  · exact .inl h
  · exact .inr ⟨b, h, (hk.cell (p := ⟨b, 0, none⟩) hb (fun hb' => by have := hS b hb'; omega)).trans hr, Nat.lt_of_lt_of_le hb hk.size⟩

set_option maxRecDepth 100000 in
set_option maxHeartbeats 400000 in
theorem cnone_ok (w : World) (b : Nat) (h : w.cell? ⟨b, 0, none⟩ = some (.bool true)) :
    Calls Try.prog 89 #[.pointer (some ⟨b, 0, none⟩)] w fun e w' => e = .returned (.bool false) ∧ w = w' := by
  go_enter Try.func89, Try.ntmps89
  go_wp2
  go_ret
  exact ⟨rfl, rfl⟩

set_option maxRecDepth 100000 in
set_option maxHeartbeats 400000 in
theorem cnone_none (w : World) (v : Value) (h : NoChg w v) :
    Calls Try.prog 89 #[v] w fun e w' => e = .returned (.bool true) ∧ w = w' := by
  rcases h with rfl | ⟨b, rfl, hr, _⟩
  · go_enter Try.func89, Try.ntmps89
    go_wp2
    go_ret
    exact ⟨rfl, rfl⟩
  · go_enter Try.func89, Try.ntmps89
    go_wp2
    go_ret
    exact ⟨rfl, rfl⟩

set_option maxRecDepth 100000 in
set_option maxHeartbeats 400000 in
theorem asked_none (w : World) (v : Value) (h : NoChg w v) (p : Value) (n : Int) :
    Calls Try.prog 87 #[v, p, .int .i64 n] w fun e w' => e = .returned (.int .i64 1) ∧ w = w' := by
  refine calls_hide fun R HR => ?_
  go_enter Try.func87, Try.ntmps87
  go_wp2_with (go_at_call 89; refine (cnone_none w v h).mono ?_; rintro e w' ⟨rfl, rfl⟩)
  try go_ret
  exact HR.out _ _ ⟨rfl, rfl⟩

theorem seen_new (w : World) (zs : List Int) : Row (w.alloc (.cells (List.replicate 16 (Value.bool false)).toArray 146)) w.heap.size 146 ((seenL zs 0).map Value.bool) := by
  rw [seenL_zero, List.map_replicate]; exact Row.new w _ 146

set_option maxRecDepth 100000 in
set_option maxHeartbeats 1600000 in
theorem asked_any (w : World) (b : Nat) (U M : List Int) (h : ChgIs w b U M) (a : Option Addr) (zs : List Int) (cap : Nat) (n : Int) (hz : IntsAt w b a zs) :
    Calls Try.prog 87 #[.pointer (some ⟨b, 0, none⟩), .slice a zs.length cap, .int .i64 n] w fun e w' => e = .returned (.int .i64 (askE zs n)) ∧ Keeps [] w w' := by
  refine calls_hide fun R HR => ?_
  have hlen := hz.1
  have HZ := Lib.hid hz
  clear hz
  have HC := Lib.hid h
  have hmade := h.made
  clear h
  go_enter Try.func87, Try.ntmps87
  go_wp2_with (go_at_call 89; refine (cnone_ok w b hmade).mono ?_; rintro e w' ⟨rfl, rfl⟩)
  go_loopw [8, 17] (fun _ i wr => ∃ j : Nat, j ≤ zs.length ∧ i = .int .i64 j ∧ (∀ k, k < j → 1 ≤ zs.getD k 0 ∧ zs.getD k 0 ≤ 16) ∧ w = wr) (fun _ i _ => zs.length - (intOf i).toNat)
  case atStart => exact ⟨0, by omega, rfl, fun k hk => by omega, rfl⟩
  case round =>
    obtain ⟨j, hj, rfl, hin, rfl⟩ := hrel
    have HI := Lib.hid hin
    clear hin
    by_cases hlt : j < zs.length
    · obtain ⟨bp, off, ha, hb, hne, hc⟩ := HZ.out.at hlt
      subst ha
      have c0 := hc j hlt
      have HG := Lib.hid (ask_group zs n j hlt)
      have HN := Lib.hid (fun (x : 1 ≤ zs.getD j 0 ∧ zs.getD j 0 ≤ 16) k (hk : k < j + 1) => (if e : k = j then e ▸ x else HI.out k (by omega) : 1 ≤ zs.getD k 0 ∧ zs.getD k 0 ≤ 16))
      clear hc
      generalize zs.getD j 0 = g at *
      by_cases hg : g < 1 ∨ 16 < g
      · have e := HG.out hg
        rw [e] at HR
        rcases hg with hg | hg
        · go_wp2
          try go_ret
          exact HR.out _ _ ⟨rfl, Keeps.refl _ _⟩
        · have : ¬ g < 1 := by omega
          go_wp2
          try go_ret
          exact HR.out _ _ ⟨rfl, Keeps.refl _ _⟩
      · have hg' : 1 ≤ g ∧ g ≤ 16 := by omega
        have HN2 := Lib.hid (HN.out hg')
        clear hg HN HG
        go_wp2
        go_roundw
        case rel => exact ⟨j + 1, by omega, by go_num, HN2.out, trivial⟩
        case measure => simp [intOf]; omega
    · obtain rfl : j = zs.length := by omega
      have HA := Lib.hid (all_in zs HI.out)
      have H2 := Lib.hid (And.intro (seen_new w zs) (((Keeps.refl [] w).alloc (.cells (List.replicate 16 (Value.bool false)).toArray 146))))
      clear hlt hj
      go_wp2_with fail
      have hbs : b ≠ w.heap.size := by have := HC.out.hd.lt; omega
      go_loopw [10, 12, 30] (fun t _ i wr => ∃ j : Nat, j ≤ zs.length ∧ i = .int .i64 j ∧ t = .bool (dupTo zs j) ∧ Row wr w.heap.size 146 ((seenL zs j).map Value.bool) ∧ Keeps [] w wr) (fun _ _ i _ => zs.length - (intOf i).toNat)
      case atStart => exact ⟨0, by omega, rfl, rfl, H2.out.1, H2.out.2⟩
      case round =>
        obtain ⟨j, hj, rfl, rfl, hrow, hkr⟩ := hrel
        by_cases hlt : j < zs.length
        · have hzr := HZ.out.keeps hkr (by simp)
          obtain ⟨bp, off, ha, hb, hne, hc⟩ := hzr.at hlt
          subst ha
          have c0 := hc j hlt
          have hg := HI.out j hlt
          have hd : dupTo zs (j + 1) = (dupTo zs j || decide (zs.getD j 0 ∈ zs.take j)) := rfl
          obtain ⟨k, hk, hk16⟩ : ∃ k : Nat, zs.getD j 0 = (k : Int) + 1 ∧ k < 16 := ⟨(zs.getD j 0 - 1).toNat, by omega, by omega⟩
          have hs := seenL_succ zs j k hlt hk16 hk
          have c1 := hrow.cell (seenL_get zs j k hk16)
          have fr := hrow.free k
          have hset := hrow.set k (.bool true)
          rw [hs] at hset
          rw [hk] at c0 hd
          have hi : 0 ≤ (k : Int) ∧ (k : Int) < 16 := by omega
          have HS := Lib.hid (And.intro hset (And.intro hkr hd))
          clear hset hkr hd hs hrow hzr hc hk hg
          generalize decide (((k : Int) + 1) ∈ zs.take j) = q at *
          cases hdj : dupTo zs j with
          | true =>
            rw [hdj] at HS
            clear hdj
            go_wp2
            go_roundw
            case rel => exact ⟨j + 1, by omega, by go_num, by rw [HS.out.2.2]; rfl, HS.out.1, HS.out.2.1.set (.inr (by show _ ≤ w.heap.size; omega)) _⟩
            case measure => simp [intOf]; omega
          | false =>
            rw [hdj] at HS
            clear hdj
            go_wp2
            go_roundw
            case rel => exact ⟨j + 1, by omega, by go_num, by rw [HS.out.2.2]; rfl, HS.out.1, HS.out.2.1.set (.inr (by show _ ≤ w.heap.size; omega)) _⟩
            case measure => simp [intOf]; omega
        · obtain rfl : j = zs.length := by omega
          have HK := Lib.hid hkr
          clear hkr hrow hlt hj
          have hE := ask_arg zs n HA.out
          have hO := ask_ok zs n HA.out
          cases hd : dupTo zs zs.length with
          | true =>
            rw [hE (.inl hd)] at HR
            clear hE hO hd
            go_wp2
            try go_ret
            exact HR.out _ _ ⟨rfl, HK.out⟩
          | false =>
            by_cases h0 : zs.length = 0
            · rw [hE (by omega)] at HR
              have q0 : ((zs.length : Int) == 0) = true := by rw [h0]; rfl
              clear hE hO hd h0
              go_wp2
              try go_ret
              exact HR.out _ _ ⟨rfl, HK.out⟩
            · have q0 : ((zs.length : Int) == 0) = false := beq_eq_false_iff_ne.2 (by omega)
              by_cases h8 : 8 < zs.length
              · rw [hE (by omega)] at HR
                clear hE hO hd h0
                go_wp2
                try go_ret
                exact HR.out _ _ ⟨rfl, HK.out⟩
              · by_cases hn : n < 0
                · rw [hE (by omega)] at HR
                  clear hE hO hd h0
                  go_wp2
                  try go_ret
                  exact HR.out _ _ ⟨rfl, HK.out⟩
                · by_cases hm : 9007199254740991 < n
                  · rw [hE (by omega)] at HR
                    clear hE hO hd h0
                    go_wp2
                    try go_ret
                    exact HR.out _ _ ⟨rfl, HK.out⟩
                  · rw [hO (fun hc => by rcases hc with hc | hc | hc | hc | hc; (· rw [hd] at hc; cases hc); all_goals omega)] at HR
                    clear hE hO hd h0
                    go_wp2
                    try go_ret
                    exact HR.out _ _ ⟨rfl, HK.out⟩

end Go.Proofs.Ytlndpljhcempoaa
