/- MemAdds, the walk: adds in whichever order come to the same. Condition: the list is read as words. -/
import Derived.Test.YtlndpljhcempoaaMemOneW
import Derived.Test.YtlndpljhcempoaaSmall
import Derived.Deep.DeepCutAuto
namespace Go.Proofs.Ytlndpljhcempoaa
open Go.RowKit

theorem wrapU (x : Int) : IntKind.u64.wrap x = x % 18446744073709551616 := by rfl

/-- What is there after i adds. -/
def accW (xs : List Int) (i : Nat) : Int := IntKind.u64.wrap (xs.take i).sum

theorem accW_zero (xs : List Int) : accW xs 0 = 0 := by simp [accW, wrapU]

theorem accW_succ (xs : List Int) (i : Nat) (h : i < xs.length) : IntKind.u64.wrap (accW xs i + xs.getD i 0) = accW xs (i + 1) := by
  unfold accW
  rw [List.take_succ_eq_append_getElem h, List.sum_append]
  simp only [wrapU, List.getD_eq_getElem?_getD, List.getElem?_eq_getElem h, Option.getD_some, List.sum_cons, List.sum_nil]
  omega

/-- The list begun at k. -/
def rotL (xs : List Int) (k : Nat) : List Int := xs.drop k ++ xs.take k

theorem rotL_length (xs : List Int) (k : Nat) (h : k ≤ xs.length) : (rotL xs k).length = xs.length := by
  simp [rotL]; omega

theorem rotL_get (xs : List Int) (k i : Nat) (hk : k < xs.length) (hi : i < xs.length) : (rotL xs k).getD i 0 = xs.getD ((i + k) % xs.length) 0 := by
  unfold rotL
  simp only [List.getD_eq_getElem?_getD]
  congr 1
  by_cases h : i < xs.length - k
  · rw [List.getElem?_append_left (by simpa using h), List.getElem?_drop, Nat.mod_eq_of_lt (by omega), Nat.add_comm]
  · rw [List.getElem?_append_right (by simp; omega)]
    have e : (i + k) % xs.length = i + k - xs.length := by
      rw [Nat.mod_eq_sub_mod (by omega), Nat.mod_eq_of_lt (by omega)]
    rw [e, List.getElem?_take_of_lt (by simp; omega)]
    congr 1
    simp; omega

theorem rotL_acc (xs : List Int) (k : Nat) (h : k ≤ xs.length) : accW (rotL xs k) xs.length = accW xs xs.length := by
  unfold accW
  rw [List.take_of_length_le (by rw [rotL_length xs k h]; exact Nat.le_refl _), List.take_length]
  congr 1
  unfold rotL
  rw [List.sum_append, Int.add_comm, ← List.sum_append, List.take_append_drop]

theorem addW_acc (s x : Int) : addW [0, s, 0] 1 x = [0, IntKind.u64.wrap (s + x), 0] := rfl
theorem ldV_acc (s : Int) : ldV [0, s, 0] 1 = s := rfl
theorem err_acc (s : Int) : errB (inb [0, s, 0] 1 1) = 0 := rfl

set_option maxRecDepth 100000 in
set_option maxHeartbeats 1600000 in
theorem adds_walk (a : Option Addr) (len cap : Nat) (zs : List Int) (first : Int) (w : World) (hz : IsInts .u64 w a len cap zs) :
    Calls Try.prog 3 #[.slice a len cap, .int .i64 first] w fun e w' => e = .returned (.bool true) ∧ Below w.heap.size w w' := by
  refine calls_hide fun R HR => ?_
  have hlen := hz.len_le
  by_cases hl0 : len = 0
  · subst hl0
    go_enter Try.func3, Try.ntmps3
    go_wp2_with fail
    refine (works3_any w).mono ?_
    rintro e w1 ⟨rfl, hk1⟩
    go_wp2_with fail
    refine (works3_any w1).mono ?_
    rintro e w2 ⟨rfl, hk2⟩
    go_wp2
    try go_ret
    exact HR.out _ _ ⟨rfl, (hk1.trans hk2 (by simp)).below (Nat.le_refl _) (by simp)⟩
  · obtain ⟨b, off, rfl, hb, hzl, hcell⟩ := hz.at (j := 0) (by omega)
    have HC := Lib.hid hcell
    have hlen0 : ((len : Int) == 0) = false := by simp; omega
    have hlc : len ≤ cap := by
      rcases hz with ⟨h, _⟩ | ⟨_, _, h, _⟩
      · cases h
      · exact h
    clear hcell
    go_enter Try.func3, Try.ntmps3
    go_wp2_with fail
    refine (works3_any w).mono ?_
    rintro e w1 ⟨rfl, hk1⟩
    go_upto_region 3 with fail
    go_cut [0] (fun s0 wx => ∃ n : Nat, s0 = .slice (some ⟨b, off, none⟩) n cap ∧ 0 < n ∧ n ≤ len ∧ n ≤ 60 ∧ w1 = wx)
    case first =>
      go_wp2
      all_goals (go_meet; exact ⟨_, rfl, by omega, by omega, by omega, rfl⟩)
    case rest =>
      obtain ⟨n, rfl, hn0, hnl, hn6, rfl⟩ := hcut
      go_wp2_with fail
      refine (bring_any first n _ (by omega) (by omega)).mono ?_
      rintro e w2 ⟨rfl, rfl⟩
      obtain ⟨k, hk, hkn⟩ : ∃ k : Nat, first % (n : Int) = (k : Int) ∧ k < n := by
        have h1 := Int.emod_nonneg first (b := (n : Int)) (by omega)
        have h2 := Int.emod_lt_of_pos first (b := (n : Int)) (by omega)
        exact ⟨(first % (n : Int)).toNat, by omega, by omega⟩
      rw [hk]
      clear hk
      go_wp2_with fail
      refine (new_ok w1 3 (by omega) (by omega)).mono ?_
      rintro e w2 ⟨rfl, hma, hk2⟩
      have hma : MemIs w2 (w1.heap.size + 1) w1.heap.size [0, 0, 0] 0 := hma
      obtain ⟨am, ham⟩ : ∃ am, am = w1.heap.size + 1 := ⟨_, rfl⟩
      obtain ⟨aw, haw⟩ : ∃ aw, aw = w1.heap.size := ⟨_, rfl⟩
      rw [← ham, ← haw] at hma
      rw [← ham]
      have hsz := hk1.size
      have HA := Lib.hid (And.intro (And.intro ham haw) (And.intro hma (hk1.trans hk2 (by simp))))
      clear ham haw hk2 hma
      go_wp2_with fail
      refine (new_ok w2 3 (by omega) (by omega)).mono ?_
      rintro e w3 ⟨rfl, hmb, hk3⟩
      have hmb : MemIs w3 (w2.heap.size + 1) w2.heap.size [0, 0, 0] 0 := hmb
      obtain ⟨bm, hbm⟩ : ∃ bm, bm = w2.heap.size + 1 := ⟨_, rfl⟩
      obtain ⟨bw, hbw⟩ : ∃ bw, bw = w2.heap.size := ⟨_, rfl⟩
      rw [← hbm, ← hbw] at hmb
      rw [← hbm]
      have hA := HA.out
      have l1 := hA.2.1.hd.lt
      have l2 := hA.2.1.wr.lt
      have hsep : w.heap.size ≤ aw ∧ w.heap.size ≤ am ∧ w.heap.size ≤ bw ∧ w.heap.size ≤ bm ∧ am ≠ bm ∧ am ≠ bw ∧ aw ≠ bm ∧ aw ≠ bw := by omega
      have HB := Lib.hid (And.intro hsep (And.intro (hA.2.1.keeps hk3 (by simp) (by simp)) (And.intro hmb (hA.2.2.trans hk3 (by simp)))))
      clear hbm hbw hk3 hmb hA l1 l2 hsep HA hk1 hsz
      go_wp2_with fail
      go_loopw [10, 11] (fun sum i wr => ∃ (j : Nat) (ca cb : Int), j ≤ n ∧ i = .int .i64 j ∧ sum = .int .u64 (accW (zs.take n) j) ∧ MemIs wr am aw [0, accW (zs.take n) j, 0] ca ∧ MemIs wr bm bw [0, accW (rotL (zs.take n) k) j, 0] cb ∧ Keeps [] w wr) (fun _ i _ => n - (intOf i).toNat)
      case atStart => exact ⟨0, 0, 0, by omega, rfl, by rw [accW_zero], by rw [accW_zero]; exact HB.out.2.1, by rw [accW_zero]; exact HB.out.2.2.1, HB.out.2.2.2⟩
      case round =>
        obtain ⟨j, ca, cb, hj, rfl, rfl, hma, hmb, hkr⟩ := hrel
        have hlz : (zs.take n).length = n := by simp; omega
        by_cases hlt : j < n
        · have hc1 : wr.cell? ⟨b, off + j, none⟩ = some (.int .u64 ((zs.take n).getD j 0)) := by
            rw [hkr.cell (by exact hb) (by simp), HC.out j (by omega)]; simp [List.getElem?_take_of_lt hlt]
          have hmod : (j + k) % n < n := Nat.mod_lt _ (by omega)
          have hc2 : wr.cell? ⟨b, off + (j + k) % n, none⟩ = some (.int .u64 ((rotL (zs.take n) k).getD j 0)) := by
            rw [hkr.cell (by exact hb) (by simp), HC.out _ (by omega), rotL_get _ _ _ (by omega) (by omega), hlz]; simp [List.getElem?_take_of_lt hmod]
          have hmi : 0 ≤ ((j : Int) + (k : Int)) % (n : Int) ∧ ((j : Int) + (k : Int)) % (n : Int) < (n : Int) := ⟨Int.emod_nonneg _ (by omega), Int.emod_lt_of_pos _ (by omega)⟩
          have hmt : (((j : Int) + (k : Int)) % (n : Int)).toNat = (j + k) % n := by
            have e : ((j : Int) + (k : Int)) % (n : Int) = (((j + k) % n : Nat) : Int) := by simp
            rw [e, Int.toNat_natCast]
          have hS := accW_succ (zs.take n) j (by omega)
          have hT := accW_succ (rotL (zs.take n) k) j (by rw [rotL_length _ _ (by omega)]; omega)
          generalize (zs.take n).getD j 0 = x at *
          generalize (rotL (zs.take n) k).getD j 0 = y at *
          have HST := Lib.hid (And.intro hS hT)
          have HM := Lib.hid (And.intro hma (And.intro hmb hkr))
          have hxx : (accW (zs.take n) j != accW (zs.take n) j) = false := by simp
          clear hS hT hma hmb hkr hlz
          go_wp2_with fail
          refine (add_any wr am aw _ ca HM.out.1 1 x).mono ?_
          rintro e w4 ⟨rfl, hm, hk4⟩
          rw [addW_acc, HST.out.1] at hm
          rw [ldV_acc, err_acc]
          have H4 := Lib.hid (And.intro hm hk4)
          have hc3 := (hk4.cell (p := ⟨b, off + (j + k) % n, none⟩) (Nat.lt_of_lt_of_le hb HM.out.2.2.size) (by simp; have := HB.out.1; omega)).trans hc2
          have hc4 := (hk4.cell (p := ⟨b, off + j, none⟩) (Nat.lt_of_lt_of_le hb HM.out.2.2.size) (by simp; have := HB.out.1; omega)).trans hc1
          clear hm hk4 hc1 hc2
          go_wp2_with fail
          have hmb4 := HM.out.2.1.keeps H4.out.2 (by simp; have := HB.out.1; omega) (by simp; have := HB.out.1; omega)
          refine (add_any w4 bm bw _ cb hmb4 1 y).mono ?_
          rintro e w5 ⟨rfl, hm, hk5⟩
          rw [addW_acc, HST.out.2] at hm
          rw [err_acc]
          have H5 := Lib.hid (And.intro (H4.out.1.keeps hk5 (by simp; have := HB.out.1; omega) (by simp; have := HB.out.1; omega)) (And.intro hm ((HM.out.2.2.trans H4.out.2 (by simp; have := HB.out.1; omega)).trans hk5 (by simp; have := HB.out.1; omega))))
          have hc5 := (hk5.cell (p := ⟨b, off + j, none⟩) (Nat.lt_of_lt_of_le hb (Nat.le_trans HM.out.2.2.size H4.out.2.size)) (by simp; have := HB.out.1; omega)).trans hc4
          clear hm hk5 hc3 hc4 hmb4 hmi hmt
          go_wp2
          go_roundw
          case rel => exact ⟨j + 1, _, _, by omega, by go_num, by rw [HST.out.1], H5.out.1, H5.out.2.1, H5.out.2.2⟩
          case measure => simp [intOf]; omega
        · have hjn : n = j := by omega
          subst hjn
          have hrot := rotL_acc (zs.take n) k (by omega)
          rw [hlz] at hrot
          rw [hrot] at hmb
          have HM := Lib.hid (And.intro hma (And.intro hmb hkr))
          clear hma hmb hkr hrot hlz
          go_wp2_with fail
          refine (load_any wr am aw _ ca HM.out.1 1).mono ?_
          rintro e w4 ⟨rfl, _, hk4⟩
          rw [ldV_acc]
          have hmb4 := HM.out.2.1.keeps hk4 (by simp; have := HB.out.1; omega) (by simp; have := HB.out.1; omega)
          have H4 := Lib.hid (And.intro hk4 hmb4)
          clear hk4 hmb4
          go_wp2_with fail
          refine (load_any w4 bm bw _ cb H4.out.2 1).mono ?_
          rintro e w5 ⟨rfl, _, hk5⟩
          rw [ldV_acc]
          have H5 := Lib.hid hk5
          clear hk5
          go_wp2
          try go_ret
          exact HR.out _ _ ⟨rfl, ((HM.out.2.2.trans H4.out.1 (by simp; have := HB.out.1; omega)).trans H5.out (by simp; have := HB.out.1; omega)).below (Nat.le_refl _) (by simp)⟩

end Go.Proofs.Ytlndpljhcempoaa
