/- One call of a stock and of the document's answer for it (wainscotlaw13's step): alike. Condition: both read as the same pairs. -/
import Derived.Test.YtlndpljhcempoaaStkW
import Derived.Test.YtlndpljhcempoaaSmall
import Derived.Test.YtlndpljhcempoaaOpen
import Derived.Deep.RegionHeld3
namespace Go.Proofs.Ytlndpljhcempoaa
open Go.RowKit

/-- Both stocks, alike. -/
structure Both13 (w : World) (b bs r rs : Nat) (L : List (Int × Int)) : Prop where
  pm : StkIs 93 132 w b bs L
  pr : StkIs 128 134 w r rs L
  n1 : b ≠ r
  n2 : b ≠ rs
  n3 : bs ≠ r
  n4 : bs ≠ rs

theorem Both13.keeps {w w' : World} {b bs r rs : Nat} {L : List (Int × Int)} {S : List Nat} (h : Both13 w b bs r rs L) (hk : Keeps S w w') (h1 : b ∉ S) (h2 : bs ∉ S) (h3 : r ∉ S) (h4 : rs ∉ S) : Both13 w' b bs r rs L :=
  ⟨h.pm.keeps hk h1 h2, h.pr.keeps hk h3 h4, h.n1, h.n2, h.n3, h.n4⟩

/-- What a step leaves. -/
def Stepped13 (w : World) (b bs r rs : Nat) (n : Nat) (e : Ending) (w' : World) : Prop :=
  e = .returned (.bool true) ∧ ∃ L', Both13 w' b bs r rs L' ∧ L'.length = n ∧ Keeps [bs, rs] w w'

theorem takeL_len (L : List (Int × Int)) (c g n : Int) : (takeL L c g n).length = L.length := by unfold takeL; split <;> simp
theorem drainL_len (L : List (Int × Int)) (c : Int) : (drainL L c).length = L.length := by unfold drainL; split <;> simp
theorem putL_len (L : List (Int × Int)) (c g n : Int) : (putL L c g n).length = L.length := by unfold putL; (repeat' split) <;> simp

set_option maxRecDepth 100000 in
set_option maxHeartbeats 1600000 in
theorem step13_kind0 (w : World) (b bs r rs : Nat) (L : List (Int × Int)) (kd c g n : Int) (h : Both13 w b bs r rs L) (hq : kd % 3 = 0) :
    Calls Try.prog 49 #[.pointer (some ⟨b, 0, none⟩), .pointer (some ⟨r, 0, none⟩), .agg #[.int .i64 kd, .int .i64 c, .int .i64 g, .int .i64 n]] w (Stepped13 w b bs r rs L.length) := by
  refine calls_hide fun R HR => ?_
  have l1 := h.pm.hd.lt
  have l2 := h.pm.el.lt
  have l3 := h.pr.hd.lt
  have l4 := h.pr.el.lt
  have hbox := Row.new w [.int .i64 kd, .int .i64 c, .int .i64 g, .int .i64 n] 81
  have hk0 := (Keeps.refl [] w).alloc (.cells #[.int .i64 kd, .int .i64 c, .int .i64 g, .int .i64 n] 81)
  have H0 := Lib.hid (And.intro (h.keeps hk0 (by simp) (by simp) (by simp) (by simp)) (And.intro hk0 hbox))
  clear hk0 hbox
  have HQ := Lib.hid hq
  clear hq
  go_enter Try.func49, Try.ntmps49
  go_wp2_with fail
  refine (bring_any kd 3 _ (by omega) (by omega)).mono ?_
  rintro e w1 ⟨rfl, rfl⟩
  rw [HQ.out]
  go_wp2_with fail
  have D0 := Lib.hid (H0.out.1.keeps ((Keeps.refl [] _).drew) (by simp) (by simp) (by simp) (by simp))
  go_region_held3 (fun w' => w'.cell? ⟨w.heap.size, 1, none⟩ = some (.int .i64 c) ∧ w'.cell? ⟨w.heap.size, 2, none⟩ = some (.int .i64 g) ∧ w'.cell? ⟨w.heap.size, 3, none⟩ = some (.int .i64 n)) (go_keep)
    (first
      | (go_at_call 55; refine (take_any _ b bs L D0.out.pm c g n).mono ?_; rintro e w1 ⟨rfl, hm, hk⟩; have hbx := hk.row H0.out.2.2.drew (by simp; omega); have hx1 := hbx.cell (i := 1) rfl; have hx2 := hbx.cell (i := 2) rfl; have hx3 := hbx.cell (i := 3) rfl; have H1 := Lib.hid (And.intro hm (And.intro hk hbx)); clear hm hk hbx)
      | (go_at_call 90; refine (rtake_any _ r rs L (D0.out.pr.keeps H1.out.2.1 (by simp; have := h.n3; omega) (by simp; have := h.n4; omega)) c g n).mono ?_; rintro e w2 ⟨rfl, hr, hk2⟩; have hbx2 := hk2.row H1.out.2.2 (by simp; omega); have hz1 := hbx2.cell (i := 1) rfl; have hz2 := hbx2.cell (i := 2) rfl; have hz3 := hbx2.cell (i := 3) rfl; have H2 := Lib.hid (And.intro hr hk2); clear hr hk2 hbx2))
  have qb : (takeB L c g n == takeB L c g n) = true := by simp
  go_wp2
  try go_ret
  refine HR.out _ _ ⟨rfl, _, ⟨H1.out.1.keeps H2.out.2 (by simp; have := h.n2; omega) (by simp; have := h.n4; omega), H2.out.1, h.n1, h.n2, h.n3, h.n4⟩, takeL_len _ _ _ _, ?_⟩
  exact ((H0.out.2.1.drew.wider (by simp)).trans H1.out.2.1 (by simp)).trans H2.out.2 (by simp)

set_option maxRecDepth 100000 in
set_option maxHeartbeats 1600000 in
theorem step13_kind1 (w : World) (b bs r rs : Nat) (L : List (Int × Int)) (kd c g n : Int) (h : Both13 w b bs r rs L) (hq : kd % 3 = 1) :
    Calls Try.prog 49 #[.pointer (some ⟨b, 0, none⟩), .pointer (some ⟨r, 0, none⟩), .agg #[.int .i64 kd, .int .i64 c, .int .i64 g, .int .i64 n]] w (Stepped13 w b bs r rs L.length) := by
  refine calls_hide fun R HR => ?_
  have l1 := h.pm.hd.lt
  have l2 := h.pm.el.lt
  have l3 := h.pr.hd.lt
  have l4 := h.pr.el.lt
  have hbox := Row.new w [.int .i64 kd, .int .i64 c, .int .i64 g, .int .i64 n] 81
  have hk0 := (Keeps.refl [] w).alloc (.cells #[.int .i64 kd, .int .i64 c, .int .i64 g, .int .i64 n] 81)
  have H0 := Lib.hid (And.intro (h.keeps hk0 (by simp) (by simp) (by simp) (by simp)) (And.intro hk0 hbox))
  clear hk0 hbox
  have HQ := Lib.hid hq
  clear hq
  go_enter Try.func49, Try.ntmps49
  go_wp2_with fail
  refine (bring_any kd 3 _ (by omega) (by omega)).mono ?_
  rintro e w1 ⟨rfl, rfl⟩
  rw [HQ.out]
  go_wp2_with fail
  refine (put_any _ b bs L H0.out.1.pm c g n).mono ?_
  rintro e w1 ⟨rfl, hm, hk⟩
  have hbx := hk.row H0.out.2.2 (by simp; omega)
  have hx1 := hbx.cell (i := 1) rfl
  have hx2 := hbx.cell (i := 2) rfl
  have hx3 := hbx.cell (i := 3) rfl
  have H1 := Lib.hid (And.intro hm hk)
  clear hm hk hbx
  go_wp2_with fail
  refine (rput_any _ r rs L (H0.out.1.pr.keeps H1.out.2 (by simp; have := h.n3; omega) (by simp; have := h.n4; omega)) c g n).mono ?_
  rintro e w2 ⟨rfl, hr, hk2⟩
  have H2 := Lib.hid (And.intro hr hk2)
  have qa0 : ((putR L c g n).1 == (putR L c g n).1) = true := by simp
  have qa1 : ((putR L c g n).2 == (putR L c g n).2) = true := by simp
  have qa2 : (putE L c g n == putE L c g n) = true := by simp
  clear hr hk2
  go_wp2
  try go_ret
  refine HR.out _ _ ⟨rfl, _, ⟨H1.out.1.keeps H2.out.2 (by simp; have := h.n2; omega) (by simp; have := h.n4; omega), H2.out.1, h.n1, h.n2, h.n3, h.n4⟩, putL_len _ _ _ _, ?_⟩
  exact ((H0.out.2.1.wider (by simp)).trans H1.out.2 (by simp)).trans H2.out.2 (by simp)

set_option maxRecDepth 100000 in
set_option maxHeartbeats 1600000 in
theorem step13_kind2 (w : World) (b bs r rs : Nat) (L : List (Int × Int)) (kd c g n : Int) (h : Both13 w b bs r rs L) (hq : kd % 3 = 2) :
    Calls Try.prog 49 #[.pointer (some ⟨b, 0, none⟩), .pointer (some ⟨r, 0, none⟩), .agg #[.int .i64 kd, .int .i64 c, .int .i64 g, .int .i64 n]] w (Stepped13 w b bs r rs L.length) := by
  refine calls_hide fun R HR => ?_
  have l1 := h.pm.hd.lt
  have l2 := h.pm.el.lt
  have l3 := h.pr.hd.lt
  have l4 := h.pr.el.lt
  have hbox := Row.new w [.int .i64 kd, .int .i64 c, .int .i64 g, .int .i64 n] 81
  have hk0 := (Keeps.refl [] w).alloc (.cells #[.int .i64 kd, .int .i64 c, .int .i64 g, .int .i64 n] 81)
  have H0 := Lib.hid (And.intro (h.keeps hk0 (by simp) (by simp) (by simp) (by simp)) (And.intro hk0 hbox))
  clear hk0 hbox
  have HQ := Lib.hid hq
  clear hq
  go_enter Try.func49, Try.ntmps49
  go_wp2_with fail
  refine (bring_any kd 3 _ (by omega) (by omega)).mono ?_
  rintro e w1 ⟨rfl, rfl⟩
  rw [HQ.out]
  go_wp2_with fail
  refine (drain_any _ b bs L H0.out.1.pm c).mono ?_
  rintro e w1 ⟨rfl, hm, hk⟩
  have hbx := hk.row H0.out.2.2 (by simp; omega)
  have hx1 := hbx.cell (i := 1) rfl
  have hx2 := hbx.cell (i := 2) rfl
  have hx3 := hbx.cell (i := 3) rfl
  have H1 := Lib.hid (And.intro hm hk)
  clear hm hk hbx
  go_wp2_with fail
  refine (rdrain_any _ r rs L (H0.out.1.pr.keeps H1.out.2 (by simp; have := h.n3; omega) (by simp; have := h.n4; omega)) c).mono ?_
  rintro e w2 ⟨rfl, hr, hk2⟩
  have H2 := Lib.hid (And.intro hr hk2)
  have qa0 : ((at2 L c).1 == (at2 L c).1) = true := by simp
  have qa1 : ((at2 L c).2 == (at2 L c).2) = true := by simp
  clear hr hk2
  go_wp2
  try go_ret
  refine HR.out _ _ ⟨rfl, _, ⟨H1.out.1.keeps H2.out.2 (by simp; have := h.n2; omega) (by simp; have := h.n4; omega), H2.out.1, h.n1, h.n2, h.n3, h.n4⟩, drainL_len _ _, ?_⟩
  exact ((H0.out.2.1.wider (by simp)).trans H1.out.2 (by simp)).trans H2.out.2 (by simp)

/-- A step, of whatever kind. -/
theorem step13_any (w : World) (b bs r rs : Nat) (L : List (Int × Int)) (kd c g n : Int) (h : Both13 w b bs r rs L) :
    Calls Try.prog 49 #[.pointer (some ⟨b, 0, none⟩), .pointer (some ⟨r, 0, none⟩), .agg #[.int .i64 kd, .int .i64 c, .int .i64 g, .int .i64 n]] w (Stepped13 w b bs r rs L.length) := by
  have h3 : kd % 3 = 0 ∨ kd % 3 = 1 ∨ kd % 3 = 2 := by omega
  rcases h3 with h3 | h3 | h3
  · exact step13_kind0 w b bs r rs L kd c g n h h3
  · exact step13_kind1 w b bs r rs L kd c g n h h3
  · exact step13_kind2 w b bs r rs L kd c g n h h3

end Go.Proofs.Ytlndpljhcempoaa
