/- OwnerPlays, the walk: what owners answer, call by call, is the document's. Condition: the list is read as calls. -/
import Derived.Test.YtlndpljhcempoaaOwnBoth
import Derived.Test.YtlndpljhcempoaaSmall
import Derived.Test.YtlndpljhcempoaaOpen
namespace Go.Proofs.Ytlndpljhcempoaa
open Go.RowKit

/-- A field of a call: a number. -/
def GoodNum (_ : Nat) (v : Value) : Prop := ∃ z : Int, v = .int .i64 z

/-- The five cells of a call. -/
structure Do14At (w : World) (b o : Nat) (kd s i g t : Int) : Prop where
  c0 : w.cell? ⟨b, o, none⟩ = some (.int .i64 kd)
  c1 : w.cell? ⟨b, o + 1, none⟩ = some (.int .i64 s)
  c2 : w.cell? ⟨b, o + 2, none⟩ = some (.int .i64 i)
  c3 : w.cell? ⟨b, o + 3, none⟩ = some (.int .i64 g)
  c4 : w.cell? ⟨b, o + 4, none⟩ = some (.int .i64 t)

theorem Do14At.keeps {w w' : World} {b o : Nat} {kd s i g t : Int} {S : List Nat} (h : Do14At w b o kd s i g t) (hk : Keeps S w w') (hb : b < w.heap.size) (hS : b ∉ S) : Do14At w' b o kd s i g t :=
  ⟨(hk.cell (p := ⟨b, _, none⟩) hb hS).trans h.c0, (hk.cell (p := ⟨b, _, none⟩) hb hS).trans h.c1, (hk.cell (p := ⟨b, _, none⟩) hb hS).trans h.c2, (hk.cell (p := ⟨b, _, none⟩) hb hS).trans h.c3, (hk.cell (p := ⟨b, _, none⟩) hb hS).trans h.c4⟩

theorem IsElems.five {w : World} {a : Option Addr} {len cap : Nat} (h : IsElems w a len cap 5 GoodNum) {j : Nat} (hj : j < len) :
    ∃ b off kd s i g t, a = some ⟨b, off, none⟩ ∧ b < w.heap.size ∧ Do14At w b (off + j * 5) kd s i g t := by
  obtain ⟨b, off, ha, hb, hcell⟩ := h.at (by omega) hj
  obtain ⟨v0, c0, z0, rfl⟩ := hcell 0 (by omega)
  obtain ⟨v1, c1, z1, rfl⟩ := hcell 1 (by omega)
  obtain ⟨v2, c2, z2, rfl⟩ := hcell 2 (by omega)
  obtain ⟨v3, c3, z3, rfl⟩ := hcell 3 (by omega)
  obtain ⟨v4, c4, z4, rfl⟩ := hcell 4 (by omega)
  exact ⟨b, off, z0, z1, z2, z3, z4, ha, hb, c0, by simpa [Nat.add_assoc] using c1, by simpa [Nat.add_assoc] using c2, by simpa [Nat.add_assoc] using c3, by simpa [Nat.add_assoc] using c4⟩

set_option maxRecDepth 100000 in
set_option maxHeartbeats 1600000 in
theorem plays14_bad (S O : Int) (a : Option Addr) (len cap : Nat) (w : World) (hn : newOk S O = false) :
    Calls Try.prog 14 #[.int .i64 S, .int .i64 O, .slice a len cap] w fun e w' => e = .returned (.bool true) ∧ Keeps [] w w' := by
  refine calls_hide fun R HR => ?_
  have HN := Lib.hid hn
  clear hn
  go_enter Try.func14, Try.ntmps14
  go_wp2_with fail
  refine (onew_bad w S O HN.out).mono ?_
  rintro e w1 ⟨rfl, rfl⟩
  go_wp2_with fail
  refine (rnew14_bad w S O HN.out).mono ?_
  rintro e w1 ⟨rfl, rfl⟩
  go_wp2_with fail
  refine wp_loop_rounds 1 ?_
  rw [rounds_succ]
  by_cases h0 : 0 < len
  · go_wp2_with (go_at_call 67; refine (works14_any w).mono ?_; rintro e w3 ⟨rfl, hk3⟩)
    try go_ret
    exact HR.out _ _ ⟨rfl, hk3⟩
  · go_wp2_with (go_at_call 67; refine (works14_any w).mono ?_; rintro e w3 ⟨rfl, hk3⟩)
    try go_ret
    exact HR.out _ _ ⟨rfl, hk3⟩

attribute [local irreducible] setE setF mvE mvN mvS clrE clrF

set_option maxRecDepth 100000 in
set_option maxHeartbeats 6400000 in
theorem plays14_good (S O : Nat) (a : Option Addr) (len cap : Nat) (w : World) (hz : IsElems w a len cap 5 GoodNum) (h1 : 1 ≤ S) (h2 : S ≤ 256) (h3 : 1 ≤ O) (h4 : O ≤ 16) :
    Calls Try.prog 14 #[.int .i64 S, .int .i64 O, .slice a len cap] w fun e w' => e = .returned (.bool true) ∧ Keeps [] w w' := by
  refine calls_hide fun R HR => ?_
  have hlen := hz.len_le
  have HZ := Lib.hid hz
  clear hz
  go_enter Try.func14, Try.ntmps14
  go_wp2_with fail
  refine (onew_ok w S O h1 h2 h3 h4).mono ?_
  rintro e w1 ⟨rfl, hm, hk⟩
  obtain ⟨b, hb⟩ : ∃ b, b = w.heap.size + 1 := ⟨_, rfl⟩
  obtain ⟨m, hmm⟩ : ∃ m, m = w.heap.size := ⟨_, rfl⟩
  rw [← hb, ← hmm] at hm
  rw [← hb]
  have H1 := Lib.hid (And.intro (And.intro hb hmm) (And.intro hm hk))
  clear hb hmm hk hm
  go_wp2_with fail
  refine (rnew14_ok w1 S O h1 h2 h3 h4).mono ?_
  rintro e w2 ⟨rfl, ⟨g, rs, hr, hg, hrs⟩, hk2⟩
  have hx1 := H1.out.2.1.hd.lt
  have hx2 := H1.out.2.1.om.lt
  have hm2 := H1.out.2.1.keeps hk2 (by simp) (by simp)
  have hb2 : Both14 w2 b m w1.heap.size g rs S O (fun _ _ => 0) :=
    ⟨hm2, hr, by omega, by omega, by omega, by omega, fun hq => by have := hrs b hq; omega, fun hq => by have := hrs m hq; omega⟩
  obtain ⟨r, hrr⟩ : ∃ r, r = w1.heap.size := ⟨_, rfl⟩
  rw [← hrr] at hb2
  rw [← hrr]
  have hsz := H1.out.2.2.size
  have hge : w.heap.size ≤ b ∧ w.heap.size ≤ m ∧ w.heap.size ≤ r ∧ ∀ q ∈ rs, w.heap.size ≤ q := by
    have := H1.out.1
    exact ⟨by omega, by omega, by omega, fun q hq => by have := hrs q hq; omega⟩
  have H2 := Lib.hid (And.intro hge (And.intro hb2 (H1.out.2.2.trans hk2 (by simp))))
  clear hrr hk2 hr hm2 hb2 hge hx1 hx2 hsz H1 hg hrs
  go_wp2_with fail
  go_loopw [11] (fun i wr => ∃ (j : Nat) (f : Int → Int → Int), j ≤ len ∧ j ≤ 100 ∧ i = .int .i64 j ∧ Both14 wr b m r g rs S O f ∧ Keeps [] w wr) (fun i _ => len - (intOf i).toNat)
  case atStart => exact ⟨0, _, by omega, by omega, rfl, H2.out.2.1, H2.out.2.2⟩
  case round =>
    obtain ⟨j, f, hj, hj4, rfl, hb, hkr⟩ := hrel
    have HM := Lib.hid (And.intro hb hkr)
    clear hb hkr
    by_cases hin : j < len ∧ j < 100
    · obtain ⟨hlt, hlt4⟩ := hin
      obtain ⟨bb, off, kd, s, i, x, y, ha, hb, hdo⟩ := HZ.out.five hlt
      subst ha
      obtain ⟨c0, c1, c2, c3, c4⟩ := hdo.keeps HM.out.2 hb (by simp)
      clear hdo
      have hbox := Row.new wr [.int .i64 kd, .int .i64 s, .int .i64 i, .int .i64 x, .int .i64 y] 102
      have hk0 := (Keeps.refl [] wr).alloc (.cells #[.int .i64 kd, .int .i64 s, .int .i64 i, .int .i64 x, .int .i64 y] 102)
      have H0 := Lib.hid (And.intro (HM.out.1.quiet hk0) (And.intro (HM.out.2.trans hk0 (by simp)) hbox))
      have L1 := HM.out.1.pm.hd.lt
      have L2 := HM.out.1.pm.om.lt
      have LR : Hid (wr.heap.size ∉ rs) := Lib.hid fun hq => by
        obtain ⟨q, hq', he⟩ := List.getElem_of_mem hq
        have := (HM.out.1.pr.rows q hq').lt
        omega
      clear hk0 hbox
      go_wp2_with fail
      refine (bring_any kd 3 _ (by omega) (by omega)).mono ?_
      rintro e w3 ⟨rfl, rfl⟩
      have hq : kd % 3 = 0 ∨ kd % 3 = 1 ∨ kd % 3 = 2 := by omega
      clear c0 c1 c2 c3 c4
      obtain ⟨q0, hq0⟩ : ∃ q0, q0 = wr.heap.size := ⟨_, rfl⟩
      rw [← hq0] at H0 LR
      have hqb : q0 ≠ m ∧ b ≠ q0 := by omega
      rw [← hq0]
      generalize wr.alloc (.cells #[.int .i64 kd, .int .i64 s, .int .i64 i, .int .i64 x, .int .i64 y] 102) = W at *
      have x1 := H0.out.2.2.cell (i := 1) rfl
      have x2 := H0.out.2.2.cell (i := 2) rfl
      have x3 := H0.out.2.2.cell (i := 3) rfl
      have x4 := H0.out.2.2.cell (i := 4) rfl
      clear L1 L2 hq0
      rcases hq with hq | hq | hq
      · rw [hq]
        clear hq x4
        go_wp2_with fail
        have D0 := Lib.hid (H0.out.1.quiet ((Keeps.refl [] W).drew))
        go_region_held3 (fun w' => w'.cell? ⟨q0, 1, none⟩ = some (.int .i64 s) ∧ w'.cell? ⟨q0, 2, none⟩ = some (.int .i64 i) ∧ w'.cell? ⟨q0, 3, none⟩ = some (.int .i64 x)) (go_keep)
          (first
            | (go_at_call 60; refine (oset_any _ b m S O f D0.out.pm s i x).mono ?_; rintro e w1 ⟨rfl, hm, hk⟩; have hbx := hk.row H0.out.2.2.drew (by simpa using hqb.1); have hx1 := hbx.cell (i := 1) rfl; have hx2 := hbx.cell (i := 2) rfl; have hx3 := hbx.cell (i := 3) rfl; have H1 := Lib.hid (And.intro hm (And.intro hk hbx)); clear hm hk hbx)
            | (go_at_call 61; refine (rset14_any _ r g rs S O f (D0.out.ref H1.out.2.1) s i x).mono ?_; rintro e w2 ⟨rfl, hr, hk2⟩; have hbx2 := hk2.row H1.out.2.2 LR.out; have hz1 := hbx2.cell (i := 1) rfl; have hz2 := hbx2.cell (i := 2) rfl; have hz3 := hbx2.cell (i := 3) rfl; have H2' := Lib.hid (And.intro hr hk2); clear hr hk2 hbx2))
        have qb : (setE S O f s i x == setE S O f s i x) = true := by simp
        go_wp2
        go_roundw
        case rel => exact ⟨j + 1, _, by omega, by omega, by go_num, D0.out.step H1.out.1 H2'.out.2 H2'.out.1, ((H0.out.2.1.drew.trans H1.out.2.1 (by simpa using H2.out.1.2.1)).trans H2'.out.2 (fun q hq => .inr (H2.out.1.2.2.2 q hq)))⟩
        case measure => simp [intOf]; omega
      · rw [hq]
        clear hq x3 x4
        go_wp2_with fail
        refine (oclear_any _ b m S O f H0.out.1.pm s i).mono ?_
        rintro e w1 ⟨rfl, hm, hk⟩
        have hbx := hk.row H0.out.2.2 (by simpa using hqb.1)
        have hx1 := hbx.cell (i := 1) rfl
        have hx2 := hbx.cell (i := 2) rfl
        have H1 := Lib.hid (And.intro hm hk)
        clear hm hk hbx
        go_wp2_with fail
        refine (rclear14_any _ r g rs S O f (H0.out.1.ref H1.out.2) s i).mono ?_
        rintro e w2 ⟨rfl, hr, hk2⟩
        have H2' := Lib.hid (And.intro hr hk2)
        clear hr hk2
        have qa : (f s i == f s i) = true := by simp
        have qb : (clrE S O f s i == clrE S O f s i) = true := by simp
        go_wp2
        go_roundw
        case rel => exact ⟨j + 1, _, by omega, by omega, by go_num, H0.out.1.step H1.out.1 H2'.out.2 H2'.out.1, ((H0.out.2.1.trans H1.out.2 (by simpa using H2.out.1.2.1)).trans H2'.out.2 (fun q hq => .inr (H2.out.1.2.2.2 q hq)))⟩
        case measure => simp [intOf]; omega
      · rw [hq]
        clear hq x1 x2
        go_wp2_with fail
        refine (omove_any _ b m S O f H0.out.1.pm x y).mono ?_
        rintro e w1 ⟨rfl, hm, hk⟩
        have hbx := hk.row H0.out.2.2 (by simpa using hqb.1)
        have hx3 := hbx.cell (i := 3) rfl
        have hx4 := hbx.cell (i := 4) rfl
        have H1 := Lib.hid (And.intro hm hk)
        clear hm hk hbx
        go_wp2_with fail
        refine (rmove14_any _ r g rs S O f (H0.out.1.ref H1.out.2) x y).mono ?_
        rintro e w2 ⟨rfl, hr, hk2⟩
        have H2' := Lib.hid (And.intro hr hk2)
        clear hr hk2
        have qa : (mvN S O f x y == mvN S O f x y) = true := by simp
        have qb : (mvE x y == mvE x y) = true := by simp
        go_wp2
        go_roundw
        case rel => exact ⟨j + 1, _, by omega, by omega, by go_num, H0.out.1.step H1.out.1 H2'.out.2 H2'.out.1, ((H0.out.2.1.trans H1.out.2 (by simpa using H2.out.1.2.1)).trans H2'.out.2 (fun q hq => .inr (H2.out.1.2.2.2 q hq)))⟩
        case measure => simp [intOf]; omega
    · have hor : len ≤ j ∨ (j < len ∧ 100 ≤ j) := by omega
      clear hin
      rcases hor with hor | ⟨hor1, hor2⟩
      all_goals
        go_wp2_with fail
        refine (same14_any wr b m r g rs S O f HM.out.1).mono ?_
        rintro e w3 ⟨rfl, hk⟩
        have H3 := Lib.hid (HM.out.2.trans hk (by simp))
        clear hk
        go_wp2_with fail
        refine (works14_any w3).mono ?_
        rintro e w4 ⟨rfl, hk⟩
        have H4 := Lib.hid (H3.out.trans hk (by simp))
        clear hk
        go_wp2
        try go_ret
        exact HR.out _ _ ⟨rfl, H4.out⟩

/-- OwnerPlays, whatever comes in. -/
theorem plays14_keeps (S O : Int) (a : Option Addr) (len cap : Nat) (w : World) (hz : IsElems w a len cap 5 GoodNum) :
    Calls Try.prog 14 #[.int .i64 S, .int .i64 O, .slice a len cap] w fun e w' => e = .returned (.bool true) ∧ Keeps [] w w' := by
  cases hn : newOk S O
  · exact plays14_bad S O a len cap w hn
  · have h := of_decide_eq_true hn
    obtain ⟨s, rfl⟩ := Int.eq_ofNat_of_zero_le (a := S) (by omega)
    obtain ⟨o, rfl⟩ := Int.eq_ofNat_of_zero_le (a := O) (by omega)
    exact plays14_good s o a len cap w hz (by omega) (by omega) (by omega) (by omega)

theorem plays14_any (S O : Int) (a : Option Addr) (len cap : Nat) (w : World) (hz : IsElems w a len cap 5 GoodNum) :
    Calls Try.prog 14 #[.int .i64 S, .int .i64 O, .slice a len cap] w fun e w' => e = .returned (.bool true) ∧ Below w.heap.size w w' :=
  (plays14_keeps S O a len cap w hz).mono fun _ _ ⟨he, hk⟩ => ⟨he, hk.below (Nat.le_refl _) (by simp)⟩

end Go.Proofs.Ytlndpljhcempoaa
