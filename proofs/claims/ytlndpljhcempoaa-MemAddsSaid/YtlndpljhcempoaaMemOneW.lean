/- MemOne, the walk: of those who would turn a word at once one has its way, the first one. Condition: the list is read as words. -/
import Derived.Test.YtlndpljhcempoaaMemW
namespace Go.Proofs.Ytlndpljhcempoaa
open Go.RowKit

/-- What the walk is told of a slice of integers that came in. -/
def IsInts (k : IntKind) (w : World) (a : Option Addr) (len cap : Nat) (zs : List Int) : Prop :=
  (a = none ∧ len = 0 ∧ cap = 0 ∧ zs = []) ∨
  ∃ x, a = some x ∧ len ≤ cap ∧ cap ≤ maxLen ∧ zs.length = cap ∧ (∀ i, i < zs.length → w.cell? (x.add i) = some (.int k (zs.getD i 0))) ∧ ∀ n ∈ zs, (Lit.int k n).wf = true

/-- An element that is there lies at a plain address. -/
theorem IsInts.at {k : IntKind} {w : World} {a : Option Addr} {len cap : Nat} {zs : List Int} (h : IsInts k w a len cap zs) {j : Nat} (hj : j < len) :
    ∃ b off, a = some ⟨b, off, none⟩ ∧ b < w.heap.size ∧ len ≤ zs.length ∧ ∀ i, i < len → w.cell? ⟨b, off + i, none⟩ = some (.int k (zs.getD i 0)) := by
  rcases h with ⟨_, h, _, _⟩ | ⟨x, rfl, hl, _, hz, hc, _⟩
  · omega
  · obtain ⟨b, off, spot⟩ := x
    have h0 := hc 0 (by omega)
    have hs : spot = none := by simpa [Addr.add] using World.cell?_spot h0
    subst hs
    refine ⟨b, off, rfl, ?_, by omega, fun i hi => ?_⟩
    · have := World.block_lt_of_cell? _ _ h0
      simpa [Addr.add] using this
    · have := hc i (by omega)
      rwa [Addr.add_lit] at this

theorem IsInts.len_le {k : IntKind} {w : World} {a : Option Addr} {len cap : Nat} {zs : List Int} (h : IsInts k w a len cap zs) : len ≤ 9223372036854775807 := by
  rcases h with ⟨_, h, _, _⟩ | ⟨x, rfl, hl, hm, _⟩
  · omega
  · unfold maxLen at hm; omega

/-- Where the memory stands after k tries. -/
def OneAt (v : Int) (k : Nat) (ws : List Int) : Prop := ws.length = 2 ∧ (k = 0 → ws = [v, 0]) ∧ (0 < k → ws.getD 0 0 ≠ v)

theorem one_cas {v to : Int} {k : Nat} {ws : List Int} (h : OneAt v k ws) (ht : to ≠ v) : casB ws 0 v = decide (k = 0) ∧ errB (inb ws 0 1) = 0 ∧ OneAt v (k + 1) (casW ws 0 v to) := by
  obtain ⟨h1, h2, h3⟩ := h
  have hi : inb ws 0 1 = true := by simp [inb, h1]
  rcases Nat.eq_zero_or_pos k with rfl | hk
  · obtain rfl := h2 rfl
    refine ⟨by simp [casB, hi], by simp [errB, hi], ?_, by omega, fun _ => ?_⟩
    · simp [casW, casB, hi]
    · simp [casW, casB, hi, ht]
  · have h4 := h3 hk
    have hb : casB ws 0 v = false := by simp [casB, hi]; simpa using h4
    refine ⟨by rw [hb]; simp; omega, by simp [errB, hi], ?_, by omega, fun _ => ?_⟩
    · simp [casW, hb, h1]
    · simpa [casW, hb] using h4

theorem one_cas2 {v to : Int} {k : Nat} {ws : List Int} (h : OneAt v k ws) (ht : to ≠ v) : cas2B ws 0 v 0 = decide (k = 0) ∧ errB (inb ws 0 2) = 0 ∧ OneAt v (k + 1) (cas2W ws 0 v 0 to 1) := by
  obtain ⟨h1, h2, h3⟩ := h
  have hi : inb ws 0 2 = true := by simp [inb, h1]
  rcases Nat.eq_zero_or_pos k with rfl | hk
  · obtain rfl := h2 rfl
    refine ⟨by simp [cas2B, hi], by simp [errB, hi], ?_, by omega, fun _ => ?_⟩
    · simp [cas2W, cas2B, hi]
    · simp [cas2W, cas2B, hi, ht]
  · have h4 := h3 hk
    have hb : cas2B ws 0 v 0 = false := by simp [cas2B, hi]; intro e; exact absurd e (by simpa using h4)
    refine ⟨by rw [hb]; simp; omega, by simp [errB, hi], ?_, by omega, fun _ => ?_⟩
    · simp [cas2W, hb, h1]
    · simpa [cas2W, hb] using h4

theorem wrap_ne (v : Int) : IntKind.u64.wrap (v + 1) ≠ v := by
  have : IntKind.u64.wrap (v + 1) = (v + 1) % 18446744073709551616 := by rfl
  rw [this]; omega

/-- What the word is to be turned to. -/
def tried (v y : Int) : Int := if y = v then IntKind.u64.wrap (v + 1) else y
theorem tried_ne (v y : Int) : tried v y ≠ v := by
  unfold tried
  split
  · exact wrap_ne v
  · assumption

def WonAt (k : Nat) : Int := if k = 0 then 0 else 1

set_option maxRecDepth 100000 in
set_option maxHeartbeats 800000 in
theorem one_walk (v : Int) (a : Option Addr) (len cap : Nat) (zs : List Int) (two : Bool) (w : World) (hz : IsInts .u64 w a len cap zs) :
    Calls Try.prog 4 #[.int .u64 v, .slice a len cap, .bool two] w fun e w' => e = .returned (.bool true) ∧ Below w.heap.size w w' := by
  refine calls_hide fun R HR => ?_
  have hlen := hz.len_le
  go_enter Try.func4, Try.ntmps4
  go_wp2_with fail
  refine (new_ok w 2 (by omega) (by omega)).mono ?_
  rintro e w1 ⟨rfl, hm, hk⟩
  have hm0 : MemIs w1 (w.heap.size + 1) w.heap.size [0, 0] 0 := hm
  obtain ⟨bm, hbm⟩ : ∃ bm, bm = w.heap.size + 1 := ⟨_, rfl⟩
  obtain ⟨bw, hbw⟩ : ∃ bw, bw = w.heap.size := ⟨_, rfl⟩
  rw [← hbm, ← hbw] at hm0
  rw [← hbm]
  have HN := Lib.hid (And.intro (And.intro hbm hbw) hk)
  clear hbm hbw hk hm
  go_wp2_with fail
  refine (store_any w1 bm bw [0, 0] 0 hm0 0 v).mono ?_
  rintro e w2 ⟨rfl, hm, hk⟩
  have hm2 : MemIs w2 bm bw [v, 0] 1 := hm.to rfl (by kernel_rfl)
  have HK2 := Lib.hid (HN.out.2.trans hk (by simp; have := HN.out.1; omega) : Keeps [] w w2)
  clear hm hk hm0
  have q : errB (inb [0, 0] 0 1) = 0 := rfl
  simp only [q]
  clear q
  go_wp2_with fail
  go_loopw [9, 10] (fun won i wr => ∃ (k : Nat) (ws : List Int) (cnt : Int), k ≤ len ∧ k ≤ 40 ∧ i = .int .i64 k ∧ won = .int .i64 (WonAt k) ∧ OneAt v k ws ∧ MemIs wr bm bw ws cnt ∧ Keeps [] w wr) (fun _ i _ => len - (intOf i).toNat)
  case atStart => exact ⟨0, [v, 0], 1, by omega, by omega, rfl, rfl, ⟨rfl, fun _ => rfl, fun h => by omega⟩, hm2, HK2.out⟩
  case round =>
    obtain ⟨k, ws, cnt, hk, hk4, rfl, rfl, h1, hmr, hkr⟩ := hrel
    by_cases hin : k < len ∧ k < 40
    · obtain ⟨hlt, hlt4⟩ := hin
      obtain ⟨b, off, rfl, hb, hzl, hcell⟩ := hz.at hlt
      have hc : wr.cell? ⟨b, off + k, none⟩ = some (.int .u64 (zs.getD k 0)) := (hkr.cell (by exact hb) (by simp)).trans (hcell k hlt)
      generalize zs.getD k 0 = y at hc
      have HR1 := Lib.hid (And.intro h1 (And.intro hmr hkr))
      clear hcell hm2 h1 hmr hkr
      obtain ⟨to, hto, hne⟩ : ∃ to, to = tried v y ∧ to ≠ v := ⟨_, rfl, tried_ne v y⟩
      have Q1 := Lib.hid (one_cas HR1.out.1 hne)
      have Q2 := Lib.hid (one_cas2 HR1.out.1 hne)
      clear hne
      obtain ⟨n, hn⟩ : ∃ n, n = WonAt k := ⟨_, rfl⟩
      rw [← hn]
      obtain ⟨B, hkb, hkd, hn1⟩ : ∃ B : Bool, ((k : Int) == 0) = B ∧ decide (k = 0) = B ∧ (n = if B then 0 else 1) := by
        rcases Nat.eq_zero_or_pos k with rfl | h
        · exact ⟨true, rfl, rfl, hn⟩
        · exact ⟨false, by simp; omega, by simp; omega, by rw [hn, WonAt, if_neg (by omega)]; rfl⟩
      have hhd := Lib.hid (And.intro hn hkd)
      rw [hkd] at Q1 Q2
      clear hn hkd
      by_cases hy : y = v
      · have hyv : (y == v) = true := beq_iff_eq.2 hy
        rw [tried, if_pos hy] at hto
        have HT := Lib.hid hto
        clear hy hto
        cases B with
        | true =>
          have hn0 : n = 0 := hn1
          subst hn0
          clear hn1
          cases two with
          | true =>
            go_wp2_with fail
            rw [← HT.out]
            refine (cas2_any wr bm bw ws cnt HR1.out.2.1 0 v 0 to 1).mono ?_
            rintro e w3 ⟨rfl, hm, hk3⟩
            have HM := Lib.hid (And.intro hm hk3)
            clear hm hk3
            rw [Q2.out.1, Q2.out.2.1]
            go_wp2
            go_roundw
            case rel => exact ⟨k + 1, _, _, by omega, by omega, by go_num, by rw [WonAt, if_neg (by omega)], Q2.out.2.2, HM.out.1, HR1.out.2.2.trans HM.out.2 (by simp; have := HN.out.1; omega)⟩
            case measure => simp [intOf]; omega
          | false =>
            go_wp2_with fail
            rw [← HT.out]
            refine (cas_any wr bm bw ws cnt HR1.out.2.1 0 v to).mono ?_
            rintro e w3 ⟨rfl, hm, hk3⟩
            have HM := Lib.hid (And.intro hm hk3)
            clear hm hk3
            rw [Q1.out.1, Q1.out.2.1]
            go_wp2
            go_roundw
            case rel => exact ⟨k + 1, _, _, by omega, by omega, by go_num, by rw [WonAt, if_neg (by omega)], Q1.out.2.2, HM.out.1, HR1.out.2.2.trans HM.out.2 (by simp; have := HN.out.1; omega)⟩
            case measure => simp [intOf]; omega
        | false =>
          have hn0 : n = 1 := hn1
          subst hn0
          clear hn1
          cases two with
          | true =>
            go_wp2_with fail
            rw [← HT.out]
            refine (cas2_any wr bm bw ws cnt HR1.out.2.1 0 v 0 to 1).mono ?_
            rintro e w3 ⟨rfl, hm, hk3⟩
            have HM := Lib.hid (And.intro hm hk3)
            clear hm hk3
            rw [Q2.out.1, Q2.out.2.1]
            go_wp2
            go_roundw
            case rel => exact ⟨k + 1, _, _, by omega, by omega, by go_num, by rw [WonAt, if_neg (by omega)], Q2.out.2.2, HM.out.1, HR1.out.2.2.trans HM.out.2 (by simp; have := HN.out.1; omega)⟩
            case measure => simp [intOf]; omega
          | false =>
            go_wp2_with fail
            rw [← HT.out]
            refine (cas_any wr bm bw ws cnt HR1.out.2.1 0 v to).mono ?_
            rintro e w3 ⟨rfl, hm, hk3⟩
            have HM := Lib.hid (And.intro hm hk3)
            clear hm hk3
            rw [Q1.out.1, Q1.out.2.1]
            go_wp2
            go_roundw
            case rel => exact ⟨k + 1, _, _, by omega, by omega, by go_num, by rw [WonAt, if_neg (by omega)], Q1.out.2.2, HM.out.1, HR1.out.2.2.trans HM.out.2 (by simp; have := HN.out.1; omega)⟩
            case measure => simp [intOf]; omega
      · have hyv : (y == v) = false := beq_eq_false_iff_ne.2 hy
        rw [tried, if_neg hy] at hto
        have HT := Lib.hid hto
        clear hy hto
        cases B with
        | true =>
          have hn0 : n = 0 := hn1
          subst hn0
          clear hn1
          cases two with
          | true =>
            go_wp2_with fail
            rw [← HT.out]
            refine (cas2_any wr bm bw ws cnt HR1.out.2.1 0 v 0 to 1).mono ?_
            rintro e w3 ⟨rfl, hm, hk3⟩
            have HM := Lib.hid (And.intro hm hk3)
            clear hm hk3
            rw [Q2.out.1, Q2.out.2.1]
            go_wp2
            go_roundw
            case rel => exact ⟨k + 1, _, _, by omega, by omega, by go_num, by rw [WonAt, if_neg (by omega)], Q2.out.2.2, HM.out.1, HR1.out.2.2.trans HM.out.2 (by simp; have := HN.out.1; omega)⟩
            case measure => simp [intOf]; omega
          | false =>
            go_wp2_with fail
            rw [← HT.out]
            refine (cas_any wr bm bw ws cnt HR1.out.2.1 0 v to).mono ?_
            rintro e w3 ⟨rfl, hm, hk3⟩
            have HM := Lib.hid (And.intro hm hk3)
            clear hm hk3
            rw [Q1.out.1, Q1.out.2.1]
            go_wp2
            go_roundw
            case rel => exact ⟨k + 1, _, _, by omega, by omega, by go_num, by rw [WonAt, if_neg (by omega)], Q1.out.2.2, HM.out.1, HR1.out.2.2.trans HM.out.2 (by simp; have := HN.out.1; omega)⟩
            case measure => simp [intOf]; omega
        | false =>
          have hn0 : n = 1 := hn1
          subst hn0
          clear hn1
          cases two with
          | true =>
            go_wp2_with fail
            rw [← HT.out]
            refine (cas2_any wr bm bw ws cnt HR1.out.2.1 0 v 0 to 1).mono ?_
            rintro e w3 ⟨rfl, hm, hk3⟩
            have HM := Lib.hid (And.intro hm hk3)
            clear hm hk3
            rw [Q2.out.1, Q2.out.2.1]
            go_wp2
            go_roundw
            case rel => exact ⟨k + 1, _, _, by omega, by omega, by go_num, by rw [WonAt, if_neg (by omega)], Q2.out.2.2, HM.out.1, HR1.out.2.2.trans HM.out.2 (by simp; have := HN.out.1; omega)⟩
            case measure => simp [intOf]; omega
          | false =>
            go_wp2_with fail
            rw [← HT.out]
            refine (cas_any wr bm bw ws cnt HR1.out.2.1 0 v to).mono ?_
            rintro e w3 ⟨rfl, hm, hk3⟩
            have HM := Lib.hid (And.intro hm hk3)
            clear hm hk3
            rw [Q1.out.1, Q1.out.2.1]
            go_wp2
            go_roundw
            case rel => exact ⟨k + 1, _, _, by omega, by omega, by go_num, by rw [WonAt, if_neg (by omega)], Q1.out.2.2, HM.out.1, HR1.out.2.2.trans HM.out.2 (by simp; have := HN.out.1; omega)⟩
            case measure => simp [intOf]; omega
    · have hw : WonAt k = if len = 0 then 0 else 1 := by unfold WonAt; split <;> split <;> omega
      rw [hw]
      have HR1 := Lib.hid (And.intro hmr hkr)
      clear hw h1 hmr hkr hm2 hz
      by_cases hl0 : len = 0
      · rw [if_pos hl0]
        have hk0 : k = 0 := by omega
        subst hk0
        subst hl0
        clear hin
        go_wp2_with (go_at_call 21; refine (works3_any wr).mono ?_; rintro e w3 ⟨rfl, hk3⟩)
        try go_ret
        exact HR.out _ _ ⟨rfl, (HR1.out.2.trans hk3 (by simp)).below (Nat.le_refl _) (by simp)⟩
      · rw [if_neg hl0]
        have hk0 : 0 < k := by omega
        by_cases hlt : k < len
        · have h40 : 40 ≤ k := by omega
          clear hin
          go_wp2_with (go_at_call 21; refine (works3_any wr).mono ?_; rintro e w3 ⟨rfl, hk3⟩)
          try go_ret
          exact HR.out _ _ ⟨rfl, (HR1.out.2.trans hk3 (by simp)).below (Nat.le_refl _) (by simp)⟩
        · clear hin
          go_wp2_with (go_at_call 21; refine (works3_any wr).mono ?_; rintro e w3 ⟨rfl, hk3⟩)
          all_goals (try go_ret)
          all_goals exact HR.out _ _ ⟨rfl, (HR1.out.2.trans hk3 (by simp)).below (Nat.le_refl _) (by simp)⟩

end Go.Proofs.Ytlndpljhcempoaa
