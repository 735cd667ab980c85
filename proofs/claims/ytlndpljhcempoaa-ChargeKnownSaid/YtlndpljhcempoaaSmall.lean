/- Bring: a number, brought to be from 0 to below n. Condition: both are ints, n above 0. -/
import Derived.Test.YtlndpljhcempoaaBase
namespace Go.Proofs.Ytlndpljhcempoaa
open Go.RowKit

theorem neg_lt_tmod (i n : Int) (hn : 0 < n) : -n < i.tmod n := by
  rcases Int.le_total 0 i with h | h
  · have := Int.tmod_nonneg n h; omega
  · have h1 : (-i).tmod n = -(i.tmod n) := Int.neg_tmod ..
    have h2 := Int.tmod_lt_of_pos (-i) hn
    omega

theorem tmod_bring (i n : Int) (hn : 0 < n) (h : i.tmod n < 0) : i.tmod n + n = i % n := by
  have h1 := Int.tmod_add_mul_tdiv i n
  have h2 : -n < i.tmod n := by
    have := neg_lt_tmod i n hn
    exact this
  have h3 : (i.tmod n + n) = (i.tmod n + n) % n := (Int.emod_eq_of_lt (by omega) (by omega)).symm
  rw [h3, Int.add_emod_right]
  conv => rhs; rw [← h1]
  rw [Int.add_mul_emod_self_left]

theorem tmod_bring' (i n : Int) (hn : 0 < n) (h : ¬ i.tmod n < 0) : i.tmod n = i % n := by
  have h1 := Int.tmod_add_mul_tdiv i n
  have h2 := Int.tmod_lt_of_pos i hn
  have h3 : (i.tmod n) = (i.tmod n) % n := (Int.emod_eq_of_lt (by omega) (by omega)).symm
  rw [h3]
  conv => rhs; rw [← h1]
  rw [Int.add_mul_emod_self_left]

set_option maxHeartbeats 400000 in
theorem bring_any (i n : Int) (w : World) (hn : 0 < n) (hn' : n ≤ 9223372036854775807) :
    Calls Try.prog 22 #[.int .i64 i, .int .i64 n] w fun e w' => e = .returned (.int .i64 (i % n)) ∧ w = w' := by
  refine calls_hide fun R HR => ?_
  have h0 : ¬ n = 0 := by omega
  have h1 := Int.tmod_lt_of_pos i hn
  have h2 := neg_lt_tmod i n hn
  by_cases h : i.tmod n < 0
  · rw [← tmod_bring i n hn h] at HR
    go_enter Try.func22, Try.ntmps22
    go_wp2
    try go_ret
    exact HR.out _ _ ⟨rfl, rfl⟩
  · rw [← tmod_bring' i n hn h] at HR
    go_enter Try.func22, Try.ntmps22
    go_wp2
    try go_ret
    exact HR.out _ _ ⟨rfl, rfl⟩
end Go.Proofs.Ytlndpljhcempoaa
