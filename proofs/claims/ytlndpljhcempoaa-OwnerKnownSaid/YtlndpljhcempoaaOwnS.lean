/- The reference's owners (wainscotref14): Count, Empty, Move. Condition: the blocks read as the grid. -/
import Derived.Test.YtlndpljhcempoaaOwnR
namespace Go.Proofs.Ytlndpljhcempoaa
open Go.RowKit

/-- What lies before a cell, row by row. -/
def lex (s i : Int) : Int → Int → Bool := fun a b => decide (a < s ∨ (a = s ∧ b < i))

theorem lex_new (s i : Int) : lex s i s i = false := decide_eq_false (by omega)

theorem lex_next (s i : Int) : upd (lex s i) s i true = lex s (i + 1) := by
  funext a b
  by_cases e : a = s ∧ b = i
  · obtain ⟨rfl, rfl⟩ := e
    rw [upd_same]
    exact (decide_eq_true (by omega)).symm
  · rw [upd_ne _ _ _ _ e]
    unfold lex
    by_cases h : a < s ∨ (a = s ∧ b < i)
    · rw [decide_eq_true h, decide_eq_true (by omega)]
    · rw [decide_eq_false h, decide_eq_false (by omega)]

theorem lex_row {s O a b : Int} (hb : 0 ≤ b) (hb' : b < O) : lex s O a b = lex (s + 1) 0 a b := by
  unfold lex
  by_cases h : a < s ∨ (a = s ∧ b < O)
  · rw [decide_eq_true h, decide_eq_true (by omega)]
  · rw [decide_eq_false h, decide_eq_false (by omega)]

theorem lex_none {a b : Int} (ha : 0 ≤ a) (hb : 0 ≤ b) : lex 0 0 a b = false := decide_eq_false (by omega)
theorem lex_all {S a b : Int} (ha : a < S) : lex S 0 a b = true := decide_eq_true (by omega)

theorem cG_congr {S O : Nat} {f : Int → Int → Int} {sn sn' : Int → Int → Bool} {g : Int} (h : ∀ a b : Nat, a < S → b < O → sn a b = sn' a b) : cG S O f sn g = cG S O f sn' g :=
  cntF_congr fun a b ha hb => by rw [h a b ha hb]

theorem cG_row (S O : Nat) (f : Int → Int → Int) (s g : Int) : cG S O f (lex s O) g = cG S O f (lex (s + 1) 0) g := cG_congr fun a b _ hb => lex_row (by omega) (by omega)
theorem cG_zero (S O : Nat) (f : Int → Int → Int) (g : Int) : cG S O f (lex 0 0) g = 0 := by
  rw [cG_congr (sn' := fun _ _ => false) fun a b _ _ => lex_none (by omega) (by omega), cG_start]
theorem cG_full (S O : Nat) (f : Int → Int → Int) (g : Int) : cG S O f (lex S 0) g = ofG S O f g :=
  cntF_congr fun a b ha _ => by rw [lex_all (by omega)]; rfl

theorem mvF_congr {f : Int → Int → Int} {sn sn' : Int → Int → Bool} {x y : Int} (h : ∀ a b, f a b = x → sn a b = sn' a b) : mvF f sn x y = mvF f sn' x y := by
  funext a b
  unfold mvF
  by_cases e : f a b = x
  · rw [h a b e]
  · rw [if_neg (fun hh => e hh.2), if_neg (fun hh => e hh.2)]

theorem mvF_row {S O : Nat} {f : Int → Int → Int} (hf : Fine S O f) (s : Int) {x y : Int} (hx : x ≠ 0) : mvF f (lex s O) x y = mvF f (lex (s + 1) 0) x y :=
  mvF_congr fun a b e => by have := hf.inn a b (by omega); exact lex_row (by omega) (by omega)

theorem mvF_zero' {S O : Nat} {f : Int → Int → Int} (hf : Fine S O f) {x y : Int} (hx : x ≠ 0) : mvF f (lex 0 0) x y = f := by
  rw [mvF_congr (sn' := fun _ _ => false) fun a b e => by have := hf.inn a b (by omega); exact lex_none (by omega) (by omega), mvF_start]

theorem mvF_full {S O : Nat} {f : Int → Int → Int} (hf : Fine S O f) {x y : Int} (hx : x ≠ 0) : mvF f (lex S 0) x y = moveF f x y := by
  funext a b
  unfold mvF moveF
  by_cases e : f a b = x
  · have := hf.inn a b (by omega)
    rw [if_pos ⟨lex_all (by omega), e⟩, if_pos e]
  · rw [if_neg (fun hh => e hh.2), if_neg e]

theorem cG_next_hit {S O : Nat} {f : Int → Int → Int} (hf : Fine S O f) {s i g : Int} (h : f s i = g) (hg : g ≠ 0) : cG S O f (lex s (i + 1)) g = cG S O f (lex s i) g + 1 := by
  subst h
  rw [← lex_next, cG_hit hf hg (lex_new s i)]

theorem cG_next_miss {S O : Nat} {f : Int → Int → Int} {s i g : Int} (h : f s i ≠ g) : cG S O f (lex s (i + 1)) g = cG S O f (lex s i) g := by
  rw [← lex_next, cG_miss h]

/-! ### Count -/

set_option maxRecDepth 100000 in
set_option maxHeartbeats 3200000 in
theorem rcount14_any (w : World) (r g : Nat) (rs : List Nat) (S O : Nat) (f : Int → Int → Int) (h : GridIs w r g rs S O f) (x : Int) :
    Calls Try.prog 103 #[.pointer (some ⟨r, 0, none⟩), .int .i64 x] w fun e w' => e = .returned (.int .i64 (cntO S O f x)) ∧ w = w' := by
  refine calls_hide fun R HR => ?_
  have H := Lib.hid h
  have hS1 : 0 < S := h.fine.s1
  have HSO : Hid (S * O ≤ 4096) := Lib.hid (Nat.le_trans (Nat.mul_le_mul h.fine.s2 h.fine.o2) (by omega))
  have HS : Hid (S ≤ 256 ∧ O ≤ 16) := Lib.hid ⟨h.fine.s2, h.fine.o2⟩
  obtain ⟨cap, hd⟩ := h.hd
  have c0 := hd.cell (i := 0) rfl
  clear h hd
  cases hg : grp x
  · have he : cntO S O f x = 0 := by
      have := grp_not hg
      unfold cntO
      split
      · rfl
      · rw [H.out.fine.zero (by omega)]; rfl
    rw [he] at HR
    clear he
    go_enter Try.func103, Try.ntmps103
    go_wp2_with fail
    refine wp_loop_rounds 1 ?_
    rw [rounds_succ]
    go_wp2_with fail
    refine (rgroup_any w x).mono ?_
    rintro e w1 ⟨rfl, rfl⟩
    rw [hg]
    go_wp2
    try go_ret
    exact HR.out _ _ ⟨rfl, rfl⟩
  · have HG := Lib.hid (grp_of hg)
    have he : cntO S O f x = (ofG S O f x : Nat) := by unfold cntO; rw [if_neg (by have := HG.out; omega)]
    rw [he] at HR
    clear he
    go_enter Try.func103, Try.ntmps103
    go_wp2_with fail
    go_loopw [5, 6] (fun n s wr => ∃ k : Nat, k ≤ S ∧ s = .int .i64 k ∧ n = .int .i64 (cG S O f (lex k 0) x : Nat) ∧ w = wr) (fun _ s _ => S - (intOf s).toNat)
    case atStart => exact ⟨0, by omega, rfl, by rw [show ((0 : Nat) : Int) = 0 from rfl, cG_zero]; rfl, rfl⟩
    case round =>
      obtain ⟨k, hk, rfl, rfl, rfl⟩ := hrel
      by_cases hlt : k < S
      · obtain ⟨q, hq, c1, hr⟩ := H.out.at hlt
        have HQ := Lib.hid hr
        clear hq hr
        have hkS : k ≤ 256 := by have := HS.out; omega
        go_wp2_with fail
        refine (rgroup_any w x).mono ?_
        rintro e w1 ⟨rfl, rfl⟩
        rw [hg]
        go_wp2_with fail
        go_loopw [5, 7] (fun n i wr => ∃ j : Nat, j ≤ O ∧ i = .int .i64 j ∧ n = .int .i64 (cG S O f (lex k j) x : Nat) ∧ w = wr) (fun _ i _ => O - (intOf i).toNat)
        case atStart => exact ⟨0, by omega, rfl, rfl, rfl⟩
        case round =>
          obtain ⟨j, hj, rfl, rfl, rfl⟩ := hrel
          have hle : (cG S O f (lex k j) x : Int) ≤ 4096 := by have := cG_le S O f (lex k j) x; have := HSO.out; omega
          have hge : (0 : Int) ≤ (cG S O f (lex k j) x : Int) := by omega
          by_cases hjl : j < O
          · have c2 := HQ.out.cell (gridRow_get f k hjl)
            have hjO : j ≤ 16 := by have := HS.out; omega
            by_cases hf : f k j = x
            · have HF := Lib.hid hf
              have hfb : (f k j == x) = true := beq_iff_eq.2 hf
              clear hf
              go_wp2
              go_roundw
              case rel => exact ⟨j + 1, by omega, by go_num, by rw [show (((j + 1 : Nat)) : Int) = (j : Int) + 1 from by omega, cG_next_hit H.out.fine HF.out (by have := HG.out; omega)]; go_num, trivial⟩
              case measure => simp [intOf]; omega
            · have HF := Lib.hid hf
              have hfb : (f k j == x) = false := beq_eq_false_iff_ne.2 hf
              clear hf
              go_wp2
              go_roundw
              case rel => exact ⟨j + 1, by omega, by go_num, by rw [show (((j + 1 : Nat)) : Int) = (j : Int) + 1 from by omega, cG_next_miss HF.out], trivial⟩
              case measure => simp [intOf]; omega
          · obtain rfl : j = O := by omega
            have hjO : j ≤ 16 := by have := HS.out; omega
            have HC := Lib.hid (cG_row S j f k x)
            go_wp2
            go_roundw
            case rel => exact ⟨k + 1, by omega, by go_num, by rw [HC.out]; rfl, trivial⟩
            case measure => simp [intOf]; omega
      · obtain rfl : k = S := by omega
        have hkS : k ≤ 256 := by have := HS.out; omega
        rw [cG_full]
        go_wp2
        try go_ret
        exact HR.out _ _ ⟨rfl, rfl⟩

/-! ### Empty -/

set_option maxRecDepth 100000 in
set_option maxHeartbeats 3200000 in
theorem rempty14_any (w : World) (r g : Nat) (rs : List Nat) (S O : Nat) (f : Int → Int → Int) (h : GridIs w r g rs S O f) (s : Int) :
    Calls Try.prog 101 #[.pointer (some ⟨r, 0, none⟩), .int .i64 s] w fun e w' => e = .returned (.bool (emptyF S O f s)) ∧ w = w' := by
  refine calls_hide fun R HR => ?_
  have H := Lib.hid h
  have hO1 := h.fine.o1
  have hO2 := h.fine.o2
  obtain ⟨cap, hd⟩ := h.hd
  have c0 := hd.cell (i := 0) rfl
  clear h hd
  by_cases hin : 0 ≤ s ∧ s < S
  · have hb : inB S O s 0 = true := inB_true ⟨by omega, by omega, by omega, by omega⟩
    obtain ⟨h1, h2⟩ := hin
    obtain ⟨s, rfl⟩ := Int.eq_ofNat_of_zero_le h1
    have hs : s < S := by omega
    obtain ⟨q, hq, c1, hr⟩ := H.out.at hs
    have HQ := Lib.hid hr
    clear hq hr h1 h2
    go_enter Try.func101, Try.ntmps101
    go_wp2_with fail
    refine (rhas14_any w r g rs S O f H.out s 0).mono ?_
    rintro e w1 ⟨rfl, rfl⟩
    rw [hb]
    clear hb
    go_wp2_with fail
    go_loopw [5] (fun i wr => ∃ j : Nat, j ≤ O ∧ i = .int .i64 j ∧ (∀ b : Nat, b < j → f s b = 0) ∧ w = wr) (fun i _ => O - (intOf i).toNat)
    case atStart => exact ⟨0, by omega, rfl, fun b hb => by omega, rfl⟩
    case round =>
      obtain ⟨j, hj, rfl, hz, rfl⟩ := hrel
      have HZ := Lib.hid hz
      clear hz
      by_cases hjl : j < O
      · have c2 := HQ.out.cell (gridRow_get f s hjl)
        by_cases hf : f s j = 0
        · have HN := Lib.hid (fun (b : Nat) (hb : b < j + 1) => (by rcases Nat.lt_succ_iff_lt_or_eq.1 hb with h | h; exact HZ.out b h; rw [h]; exact hf : f s b = 0))
          rw [hf] at c2
          clear hf
          go_wp2
          go_roundw
          case rel => exact ⟨j + 1, by omega, by go_num, HN.out, trivial⟩
          case measure => simp [intOf]; omega
        · have hfb : (f s j != 0) = true := by simp [hf]
          have he := emptyF_no H.out.fine hf
          rw [he] at HR
          clear hf he
          go_wp2
          try go_ret
          exact HR.out _ _ ⟨rfl, rfl⟩
      · obtain rfl : j = O := by omega
        have he : emptyF S j f s = true := by
          rw [emptyF, anyIn_false fun b hb => HZ.out b hb, decide_eq_true ⟨by omega, by omega⟩]; rfl
        rw [he] at HR
        clear he
        go_wp2
        try go_ret
        exact HR.out _ _ ⟨rfl, rfl⟩
  · have hb : inB S O s 0 = false := inB_false (by omega)
    rw [emptyF_out hin] at HR
    clear hin
    go_enter Try.func101, Try.ntmps101
    go_wp2_with fail
    refine (rhas14_any w r g rs S O f H.out s 0).mono ?_
    rintro e w1 ⟨rfl, rfl⟩
    rw [hb]
    go_wp2
    try go_ret
    exact HR.out _ _ ⟨rfl, rfl⟩

/-! ### Move -/

set_option maxRecDepth 100000 in
set_option maxHeartbeats 3200000 in
theorem rmove14_any (w : World) (r g : Nat) (rs : List Nat) (S O : Nat) (f : Int → Int → Int) (h : GridIs w r g rs S O f) (x y : Int) :
    Calls Try.prog 65 #[.pointer (some ⟨r, 0, none⟩), .int .i64 x, .int .i64 y] w fun e w' => e = .returned (.tuple #[.int .i64 (mvN S O f x y), .int .i64 (mvE x y)]) ∧ GridIs w' r g rs S O (mvS f x y) ∧ Keeps rs w w' := by
  refine calls_hide fun R HR => ?_
  have H := Lib.hid h
  have HSO : Hid (S * O ≤ 4096) := Lib.hid (Nat.le_trans (Nat.mul_le_mul h.fine.s2 h.fine.o2) (by omega))
  have HS : Hid (S ≤ 256 ∧ O ≤ 16) := Lib.hid ⟨h.fine.s2, h.fine.o2⟩
  clear h
  cases hx : grp x
  · have he : mvE x y = 110 := by simp [mvE, hx]
    have hn : mvN S O f x y = 0 := by simp [mvN, hx]
    have hs : mvS f x y = f := by simp [mvS, hx]
    rw [he, hn, hs] at HR
    clear he hn hs
    go_enter Try.func65, Try.ntmps65
    go_wp2_with fail
    refine (rgroup_any w x).mono ?_
    rintro e w1 ⟨rfl, rfl⟩
    rw [hx]
    go_wp2
    try go_ret2
    exact HR.out _ _ ⟨rfl, H.out, Keeps.refl _ _⟩
  · cases hy : grp y
    · have he : mvE x y = 110 := by simp [mvE, hy]
      have hn : mvN S O f x y = 0 := by simp [mvN, hy]
      have hs : mvS f x y = f := by simp [mvS, hy]
      rw [he, hn, hs] at HR
      clear he hn hs
      go_enter Try.func65, Try.ntmps65
      go_wp2_with fail
      refine (rgroup_any w x).mono ?_
      rintro e w1 ⟨rfl, rfl⟩
      rw [hx]
      go_wp2_with fail
      refine (rgroup_any w y).mono ?_
      rintro e w1 ⟨rfl, rfl⟩
      rw [hy]
      go_wp2
      try go_ret2
      exact HR.out _ _ ⟨rfl, H.out, Keeps.refl _ _⟩
    · have he : mvE x y = 0 := by simp [mvE, hx, hy]
      by_cases hxy : x = y
      · have hn : mvN S O f x y = 0 := by simp [mvN, hxy]
        have hs : mvS f x y = f := by simp [mvS, hxy]
        have hb : (x == y) = true := beq_iff_eq.2 hxy
        rw [he, hn, hs] at HR
        clear he hn hs hxy
        go_enter Try.func65, Try.ntmps65
        go_wp2_with fail
        refine (rgroup_any w x).mono ?_
        rintro e w1 ⟨rfl, rfl⟩
        rw [hx]
        go_wp2_with fail
        refine (rgroup_any w y).mono ?_
        rintro e w1 ⟨rfl, rfl⟩
        rw [hy]
        go_wp2
        try go_ret2
        exact HR.out _ _ ⟨rfl, H.out, Keeps.refl _ _⟩
      · have hn : mvN S O f x y = (ofG S O f x : Nat) := by simp [mvN, hx, hy, hxy]
        have hs : mvS f x y = moveF f x y := by simp [mvS, hx, hy, hxy]
        have hb : (x == y) = false := beq_eq_false_iff_ne.2 hxy
        rw [he, hn, hs] at HR
        have HX : Hid (x ≠ 0 ∧ y ≠ 0) := Lib.hid (by have := grp_of hx; have := grp_of hy; omega)
        have HY : Hid (1 ≤ y ∧ y ≤ 16) := Lib.hid (grp_of hy)
        clear he hn hs hxy
        go_enter Try.func65, Try.ntmps65
        go_wp2_with fail
        refine (rgroup_any w x).mono ?_
        rintro e w1 ⟨rfl, rfl⟩
        rw [hx]
        go_wp2_with fail
        refine (rgroup_any w y).mono ?_
        rintro e w1 ⟨rfl, rfl⟩
        rw [hy]
        clear hx hy
        go_wp2_with fail
        clear hb
        go_loopw [8, 9] (fun n s wr => ∃ k : Nat, k ≤ S ∧ s = .int .i64 k ∧ n = .int .i64 (cG S O f (lex k 0) x : Nat) ∧ GridIs wr r g rs S O (mvF f (lex k 0) x y) ∧ Keeps rs w wr) (fun _ s _ => S - (intOf s).toNat)
        case atStart => exact ⟨0, by omega, rfl, by rw [show ((0 : Nat) : Int) = 0 from rfl, cG_zero]; rfl, by rw [show ((0 : Nat) : Int) = 0 from rfl, mvF_zero' H.out.fine HX.out.1]; exact H.out, Keeps.refl _ _⟩
        case round =>
          obtain ⟨k, hk, rfl, rfl, hgr, hkr⟩ := hrel
          have hkS : k ≤ 256 := by have := HS.out; omega
          have HI := Lib.hid (And.intro hgr hkr)
          obtain ⟨cap, hd⟩ := hgr.hd
          have c0 := hd.cell (i := 0) rfl
          clear hgr hkr hd
          by_cases hlt : k < S
          · go_wp2_with fail
            clear c0
            go_loopw [8, 10] (fun n i wi => ∃ j : Nat, j ≤ O ∧ i = .int .i64 j ∧ n = .int .i64 (cG S O f (lex k j) x : Nat) ∧ GridIs wi r g rs S O (mvF f (lex k j) x y) ∧ Keeps rs w wi) (fun _ i _ => O - (intOf i).toNat)
            case atStart => exact ⟨0, by omega, rfl, rfl, HI.out.1, HI.out.2⟩
            case round =>
              obtain ⟨j, hj, rfl, rfl, hgr, hkr⟩ := hrel
              have HJ := Lib.hid (And.intro hgr hkr)
              obtain ⟨cap, hd⟩ := hgr.hd
              have c0 := hd.cell (i := 0) rfl
              obtain ⟨q, hq, c1, hr⟩ := hgr.at hlt
              have HQ := Lib.hid (And.intro hq hr)
              clear hgr hkr hd hq hr
              have hle : (cG S O f (lex k j) x : Int) ≤ 4096 := by have := cG_le S O f (lex k j) x; have := HSO.out; omega
              have hge : (0 : Int) ≤ (cG S O f (lex k j) x : Int) := by omega
              by_cases hjl : j < O
              · have c2 := HQ.out.2.cell (gridRow_get (mvF f (lex k j) x y) k hjl)
                have f2 := HQ.out.2.free j
                rw [mvF_new (lex_new k j)] at c2
                have hjO : j ≤ 16 := by have := HS.out; omega
                have hc1 : (((j + 1 : Nat)) : Int) = (j : Int) + 1 := by omega
                have HC1 := Lib.hid hc1
                clear hc1
                by_cases hf : f k j = x
                · have HF := Lib.hid hf
                  have hfb : (f k j == x) = true := beq_iff_eq.2 hf
                  have HST := Lib.hid (HJ.out.1.set HQ.out.1 hlt hjl (v := y) (by have := HY.out; omega) HY.out.2)
                  clear hf
                  go_wp2
                  go_roundw
                  case rel => exact ⟨j + 1, by omega, by go_num, by rw [HC1.out, cG_next_hit H.out.fine HF.out HX.out.1]; go_num, by rw [HC1.out, ← lex_next, mvF_hit HF.out]; exact HST.out.1, HJ.out.2.trans HST.out.2 (fun _ h => .inl h)⟩
                  case measure => simp [intOf]; omega
                · have HF := Lib.hid hf
                  have hfb : (f k j == x) = false := beq_eq_false_iff_ne.2 hf
                  clear hf
                  go_wp2
                  go_roundw
                  case rel => exact ⟨j + 1, by omega, by go_num, by rw [HC1.out, cG_next_miss HF.out], by rw [HC1.out, ← lex_next, mvF_miss HF.out]; exact HJ.out.1, HJ.out.2⟩
                  case measure => simp [intOf]; omega
              · obtain rfl : j = O := by omega
                have hjO : j ≤ 16 := by have := HS.out; omega
                have HC := Lib.hid (And.intro (cG_row S j f k x) (mvF_row H.out.fine k (y := y) HX.out.1))
                go_wp2
                go_roundw
                case rel => exact ⟨k + 1, by omega, by go_num, by rw [HC.out.1]; rfl, by have := HJ.out.1; rw [HC.out.2] at this; exact this, HJ.out.2⟩
                case measure => simp [intOf]; omega
          · obtain rfl : k = S := by omega
            rw [cG_full]
            go_wp2
            try go_ret2
            exact HR.out _ _ ⟨rfl, by rw [← mvF_full H.out.fine HX.out.1]; exact HI.out.1, HI.out.2⟩

end Go.Proofs.Ytlndpljhcempoaa
