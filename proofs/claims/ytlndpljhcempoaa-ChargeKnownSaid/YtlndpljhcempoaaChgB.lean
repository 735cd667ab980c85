/- The package charge: Back. Condition: the counter's block reads so; the path lies elsewhere. -/
import Derived.Test.YtlndpljhcempoaaChgT
namespace Go.Proofs.Ytlndpljhcempoaa
open Go.RowKit

/-- Is less than n charged to one of the first k? -/
def lowTo (U zs : List Int) (n : Int) : Nat → Bool
  | 0 => false
  | i + 1 => lowTo U zs n i || decide (U.getD (zs.getD i 0 - 1).toNat 0 < n)
def backE (U zs : List Int) (n : Int) : Int := if askE zs n ≠ 0 then askE zs n else if lowTo U zs n zs.length then 2 else 0
def backU (U zs : List Int) (n : Int) : List Int := if backE U zs n ≠ 0 then U else chgTo U zs (-n) zs.length

theorem lowTo_up (U zs : List Int) (n : Int) (i j : Nat) (h : i ≤ j) (hi : lowTo U zs n i = true) : lowTo U zs n j = true := by
  induction j with
  | zero =>
    have : i = 0 := by omega
    subst this
    exact hi
  | succ j ih =>
    by_cases h' : i = j + 1
    · subst h'; exact hi
    · simp only [lowTo]; rw [ih (by omega)]; rfl

theorem lowTo_not (U zs : List Int) (n : Int) (j : Nat) (h : lowTo U zs n j = false) (i : Nat) (hi : i < j) : n ≤ U.getD (zs.getD i 0 - 1).toNat 0 := by
  induction j with
  | zero => omega
  | succ j ih =>
    simp only [lowTo, Bool.or_eq_false_iff, decide_eq_false_iff_not] at h
    by_cases h' : i = j
    · subst h'; omega
    · exact ih h.1 (by omega)

theorem dupTo_not (zs : List Int) (j : Nat) (h : dupTo zs j = false) (i : Nat) (hi : i < j) : zs.getD i 0 ∉ zs.take i := by
  induction j with
  | zero => omega
  | succ j ih =>
    simp only [dupTo, Bool.or_eq_false_iff, decide_eq_false_iff_not] at h
    by_cases h' : i = j
    · subst h'; exact h.2
    · exact ih h.1 (by omega)

/-- A group that does not stand among the first i keeps what it has. -/
theorem chgTo_other (U zs : List Int) (m : Int) (k : Nat) (i : Nat) (hi : i ≤ zs.length) (hz : ∀ i, i < zs.length → 1 ≤ zs.getD i 0) (h : ((k : Int) + 1) ∉ zs.take i) : (chgTo U zs m i).getD k 0 = U.getD k 0 := by
  induction i with
  | zero => rfl
  | succ i ih =>
    rw [mem_take_succ zs i (by omega)] at h
    have h1 := hz i (by omega)
    have hne : (zs.getD i 0 - 1).toNat ≠ k := fun e => h (.inr (by omega))
    simp only [chgTo]
    rw [List.getD_eq_getElem?_getD, List.getElem?_set_ne hne, ← List.getD_eq_getElem?_getD]
    exact ih (by omega) (fun hm => h (.inl hm))

set_option maxRecDepth 100000 in
set_option maxHeartbeats 1600000 in
theorem back_any (w : World) (b : Nat) (U M : List Int) (h : ChgIs w b U M) (a : Option Addr) (zs : List Int) (cap : Nat) (n : Int) (hz : IntsAt w b a zs) :
    Calls Try.prog 42 #[.pointer (some ⟨b, 0, none⟩), .slice a zs.length cap, .int .i64 n] w fun e w' => e = .returned (.int .i64 (backE U zs n)) ∧ ChgIs w' b (backU U zs n) M ∧ Keeps [b] w w' := by
  refine calls_hide fun R HR => ?_
  have hlen := hz.1
  have H0 := Lib.hid (And.intro h hz)
  clear h hz
  go_enter Try.func42, Try.ntmps42
  go_wp2_with fail
  refine (asked_any w b U M H0.out.1 a zs cap n H0.out.2).mono ?_
  rintro e w1 ⟨rfl, hk1⟩
  have H1 := Lib.hid (And.intro (H0.out.1.keeps hk1 (by simp)) (And.intro (H0.out.2.keeps hk1 (by simp)) hk1))
  clear hk1
  by_cases he : askE zs n = 0
  · rw [he]
    obtain ⟨hin, hd, hl0, hl8, hn0, hn1⟩ := ask_zero he
    have HIN := Lib.hid (And.intro hin hd)
    clear hin hd
    go_wp2_with fail
    go_loopw [9, 21] (fun _ i wr => ∃ j : Nat, j ≤ zs.length ∧ i = .int .i64 j ∧ lowTo U zs n j = false ∧ w1 = wr) (fun _ i _ => zs.length - (intOf i).toNat)
    case atStart => exact ⟨0, by omega, rfl, rfl, rfl⟩
    case round =>
      obtain ⟨j, hj, rfl, hlow, rfl⟩ := hrel
      by_cases hlt : j < zs.length
      · obtain ⟨bp, off, ha, hb, hne, hc⟩ := H1.out.2.1.at hlt
        subst ha
        have d0 := hc j hlt
        have hg := HIN.out.1 j hlt
        obtain ⟨k, hk, hk16⟩ : ∃ k : Nat, zs.getD j 0 = (k : Int) + 1 ∧ k < 16 := ⟨(zs.getD j 0 - 1).toNat, by omega, by omega⟩
        have hlj : lowTo U zs n (j + 1) = decide (U.getD k 0 < n) := by simp only [lowTo]; rw [hlow, hk, toNat_sub_one]; rfl
        have hup := lowTo_up U zs n (j + 1) zs.length (by omega)
        have d1 := H1.out.1.cu hk16
        have hi : 0 ≤ (k : Int) ∧ (k : Int) < 16 := by omega
        rw [hk] at d0
        have HL := Lib.hid (And.intro hlj hup)
        clear hc hg hk hlow hlj hup
        by_cases hu : U.getD k 0 < n
        · have e1 : backE U zs n = 2 := by unfold backE; rw [if_neg (by rw [he]; simp), if_pos (HL.out.2 (by rw [HL.out.1]; exact decide_eq_true hu))]
          have e2 : backU U zs n = U := by unfold backU; rw [if_pos (by rw [e1]; decide)]
          rw [e1, e2] at HR
          clear e1 e2
          generalize U.getD k 0 = u at *
          go_wp2
          try go_ret
          exact HR.out _ _ ⟨rfl, H1.out.1, H1.out.2.2.wider (by simp)⟩
        · have hlj : lowTo U zs n (j + 1) = false := by rw [HL.out.1]; exact decide_eq_false hu
          have HLJ := Lib.hid hlj
          clear hlj
          generalize U.getD k 0 = u at *
          go_wp2
          go_roundw
          case rel => exact ⟨j + 1, by omega, by go_num, HLJ.out, by first | rfl | trivial⟩
          case measure => simp [intOf]; omega
      · obtain rfl : j = zs.length := by omega
        have e1 : backE U zs n = 0 := by unfold backE; rw [if_neg (by rw [he]; simp), hlow]; rfl
        have e2 : backU U zs n = chgTo U zs (-n) zs.length := by unfold backU; rw [e1]; rfl
        rw [e1, e2] at HR
        have HLOW := Lib.hid (lowTo_not U zs n zs.length hlow)
        clear e1 e2 hlt hj hlow
        go_wp2_with fail
        go_loopw [11, 37] (fun _ i wr => ∃ j : Nat, j ≤ zs.length ∧ i = .int .i64 j ∧ ChgIs wr b (chgTo U zs (-n) j) M ∧ Keeps [b] w1 wr) (fun _ i _ => zs.length - (intOf i).toNat)
        case atStart => exact ⟨0, by omega, rfl, H1.out.1, Keeps.refl _ _⟩
        case round =>
          obtain ⟨j, hj, rfl, hc, hkr⟩ := hrel
          have HM := Lib.hid (And.intro hc hkr)
          clear hc hkr
          by_cases hlt : j < zs.length
          · obtain ⟨bp, off, ha, hb, hne, hc⟩ := (H1.out.2.1.keeps HM.out.2 (by simp)).at hlt
            subst ha
            have d0 := hc j hlt
            have hg := HIN.out.1 j hlt
            obtain ⟨k, hk, hk16⟩ : ∃ k : Nat, zs.getD j 0 = (k : Int) + 1 ∧ k < 16 := ⟨(zs.getD j 0 - 1).toNat, by omega, by omega⟩
            have hlo := HLOW.out j hlt
            rw [hk, toNat_sub_one] at hlo
            have hno := dupTo_not zs zs.length HIN.out.2 j hlt
            rw [hk] at hno
            have heq := chgTo_other U zs (-n) k j hj (fun i hi => (HIN.out.1 i hi).1) hno
            have hbk := HM.out.1.bu hk16
            have d1 := HM.out.1.cu hk16
            have fr := HM.out.1.hd.free (1 + k)
            have hi : 0 ≤ (k : Int) ∧ (k : Int) < 16 := by omega
            have hst : chgTo U zs (-n) (j + 1) = (chgTo U zs (-n) j).set k ((chgTo U zs (-n) j).getD k 0 - n) := by simp only [chgTo]; rw [hk, toNat_sub_one, Int.sub_eq_add_neg]
            have hset := (HM.out.1.keeps ((Keeps.refl [] wr).drew) (by simp)).setU k (x := (chgTo U zs (-n) j).getD k 0 - n) hk16 (by rw [heq]; rw [heq] at hbk; omega)
            rw [← hst] at hset
            rw [hk] at d0
            have HS := Lib.hid hset
            rw [← heq] at hlo
            clear hset hst heq hno hk hg hc
            generalize (chgTo U zs (-n) j).getD k 0 = u at *
            go_wp2
            go_region
            go_wp2
            go_roundw
            case rel => exact ⟨j + 1, by omega, by go_num, HS.out, HM.out.2.drew.set (.inl (by simp)) _⟩
            case measure => simp [intOf]; omega
          · obtain rfl : j = zs.length := by omega
            go_wp2
            try go_ret
            exact HR.out _ _ ⟨rfl, HM.out.1, (H1.out.2.2.wider (by simp)).trans HM.out.2 (by simp)⟩
  · have e1 : backE U zs n = askE zs n := by unfold backE; rw [if_pos he]
    have e2 : backU U zs n = U := by unfold backU; rw [if_pos (by rw [e1]; exact he)]
    rw [e1, e2] at HR
    have q : (askE zs n != 0) = true := by simp [he]
    clear e1 e2 he
    generalize askE zs n = ee at *
    go_wp2
    try go_ret
    exact HR.out _ _ ⟨rfl, H1.out.1, H1.out.2.2.wider (by simp)⟩

set_option maxRecDepth 100000 in
set_option maxHeartbeats 400000 in
theorem back_none (w : World) (v : Value) (h : NoChg w v) (p : Value) (n : Int) :
    Calls Try.prog 42 #[v, p, .int .i64 n] w fun e w' => e = .returned (.int .i64 1) ∧ w = w' := by
  refine calls_hide fun R HR => ?_
  go_enter Try.func42, Try.ntmps42
  go_wp2_with (go_at_call 87; refine (asked_none w v h p n).mono ?_; rintro e w' ⟨rfl, rfl⟩)
  try go_ret
  exact HR.out _ _ ⟨rfl, rfl⟩

end Go.Proofs.Ytlndpljhcempoaa
