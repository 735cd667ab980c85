/- One call of counters and of the document's answer for it (wainscotlaw12's step): alike. Condition: both read as the same numbers; the path lies elsewhere. -/
import Derived.Test.YtlndpljhcempoaaCopy
import Derived.Deep.RegionHeld3
namespace Go.Proofs.Ytlndpljhcempoaa
open Go.RowKit

/-- A path that lies in neither of two blocks. -/
def Ints2 (w : World) (b r : Nat) (a : Option Addr) (zs : List Int) : Prop := IntsAt w b a zs ∧ IntsAt w r a zs

theorem Ints2.keeps {w w' : World} {b r : Nat} {a : Option Addr} {zs : List Int} {S : List Nat} (h : Ints2 w b r a zs) (hk : Keeps S w w') (hS : ∀ x ∈ S, x = b ∨ x = r ∨ w.heap.size ≤ x) : Ints2 w' b r a zs := by
  obtain ⟨⟨hl, h1⟩, ⟨_, h2⟩⟩ := h
  rcases h1 with h1 | ⟨b1, o1, ha, hb1, hn1, hc1⟩
  · exact ⟨⟨hl, .inl h1⟩, ⟨hl, .inl h1⟩⟩
  · rcases h2 with h2 | ⟨b2, o2, ha2, hb2, hn2, hc2⟩
    · exact ⟨⟨hl, .inl h2⟩, ⟨hl, .inl h2⟩⟩
    · subst ha
      simp only [Option.some.injEq, Addr.mk.injEq] at ha2
      obtain ⟨rfl, rfl, _⟩ := ha2
      have hc : ∀ i, i < zs.length → w'.cell? ⟨b1, o1 + i, none⟩ = some (.int .i64 (zs.getD i 0)) := fun i hi => by
        refine (hk.cell (p := ⟨b1, o1 + i, none⟩) hb1 (fun hbs => ?_)).trans (hc1 i hi)
        have : b1 ∈ S := hbs
        rcases hS b1 this with h | h | h <;> omega
      have hs := Nat.lt_of_lt_of_le hb1 hk.size
      exact ⟨⟨hl, .inr ⟨b1, o1, rfl, hs, hn1, hc⟩⟩, ⟨hl, .inr ⟨b1, o1, rfl, hs, hn2, hc⟩⟩⟩

/-- Both counters, alike. -/
structure Both12 (w : World) (b r : Nat) (U M : List Int) : Prop where
  pm : ChgIs w b U M
  pr : RchIs w r U M
  ne : b ≠ r

theorem Both12.keeps {w w' : World} {b r : Nat} {U M : List Int} {S : List Nat} (h : Both12 w b r U M) (hk : Keeps S w w') (h1 : b ∉ S) (h2 : r ∉ S) : Both12 w' b r U M := ⟨h.pm.keeps hk h1, h.pr.keeps hk h2, h.ne⟩

def Stepped12 (w : World) (b r : Nat) (e : Ending) (w' : World) : Prop := e = .returned (.bool true) ∧ ∃ U' M', Both12 w' b r U' M' ∧ Keeps [b, r] w w'

attribute [local irreducible] tryR tryU backE backU askE limM upE upU downE downU

set_option maxRecDepth 100000 in
set_option maxHeartbeats 3200000 in
theorem step12_kind0 (w : World) (b r : Nat) (U M : List Int) (kd g n : Int) (a : Option Addr) (zs : List Int) (cap : Nat) (h : Both12 w b r U M) (hp : Ints2 w b r a zs) (hl : zs.length * 8 ≤ 140737488355328) (hq : kd % 5 = 0) :
    Calls Try.prog 72 #[.pointer (some ⟨b, 0, none⟩), .pointer (some ⟨r, 0, none⟩), .agg #[.int .i64 kd, .int .i64 g, .int .i64 n, .slice a zs.length cap]] w (Stepped12 w b r) := by
  refine calls_hide fun R HR => ?_
  have lb := h.pm.hd.lt
  have lr := h.pr.hd.lt
  have hbox := Row.new w [.int .i64 kd, .int .i64 g, .int .i64 n, .slice a zs.length cap] 56
  have hk0 := (Keeps.refl [] w).alloc (.cells #[.int .i64 kd, .int .i64 g, .int .i64 n, .slice a zs.length cap] 56)
  have H0 := Lib.hid (And.intro (And.intro (h.keeps hk0 (by simp) (by simp)) (hp.keeps hk0 (by simp))) (And.intro hk0 hbox))
  obtain ⟨bx, hbx⟩ : ∃ bx, bx = w.heap.size := ⟨_, rfl⟩
  have hbb : bx ≠ b ∧ bx ≠ r := by omega
  have HQ := Lib.hid (And.intro hq (And.intro hl (And.intro hbb h.ne)))
  clear hk0 hbox hq hl hbb
  go_enter Try.func72, Try.ntmps72
  go_wp2_with fail
  rw [← hbx] at H0
  rw [← hbx]
  generalize w.alloc (.cells #[.int .i64 kd, .int .i64 g, .int .i64 n, .slice a zs.length cap] 56) = w0 at *
  have lb0 := H0.out.1.1.pm.hd.lt
  have lr0 := H0.out.1.1.pr.hd.lt
  refine (copy_any w0 b a zs cap H0.out.1.2.1 HQ.out.2.1).mono ?_
  rintro e w1 ⟨ai, ci, rfl, hin, hk1⟩
  have hr1 := hk1.row H0.out.2.2 (by simp)
  have c0 := hr1.cell (i := 0) rfl
  have c1 := hr1.cell (i := 1) rfl
  have c2 := hr1.cell (i := 2) rfl
  have c3 := hr1.cell (i := 3) rfl
  have H1 := Lib.hid (And.intro (And.intro (H0.out.1.1.keeps hk1 (by simp) (by simp)) (H0.out.1.2.keeps hk1 (by simp))) (And.intro (H0.out.2.1.trans hk1 (by simp)) (And.intro hr1 (show Ints2 w1 b r ai zs from ⟨hin b lb0, hin r lr0⟩))))
  clear hk1 hr1 hin hbx lb lr lb0 lr0 h hp
  go_wp2_with fail
  refine (bring_any kd 5 _ (by omega) (by omega)).mono ?_
  rintro e y ⟨rfl, rfl⟩
  rw [HQ.out.1]
  have D0 := Lib.hid (And.intro (H1.out.1.1.keeps ((Keeps.refl [] w1).drew) (by simp) (by simp)) (And.intro (H1.out.1.2.keeps ((Keeps.refl [] w1).drew) (by simp)) (And.intro (H1.out.2.2.1.drew) (H1.out.2.2.2.keeps ((Keeps.refl [] w1).drew) (by simp)))))
  go_wp2_with fail
  go_region_held3 (fun w' => w'.cell? ⟨bx, 1, none⟩ = some (.int .i64 g) ∧ w'.cell? ⟨bx, 2, none⟩ = some (.int .i64 n) ∧ w'.cell? ⟨bx, 3, none⟩ = some (.slice a zs.length cap)) (go_keep)
    (first
      | (go_at_call 38; refine (limit_any _ b U M D0.out.1.pm g n).mono ?_; rintro e w2 ⟨rfl, hm, hk⟩; have hbx2 := hk.row D0.out.2.2.1 (by simpa using HQ.out.2.2.1.1); have hz1 := hbx2.cell (i := 1) rfl; have hz2 := hbx2.cell (i := 2) rfl; have hz3 := hbx2.cell (i := 3) rfl; have H2 := Lib.hid (And.intro hm (And.intro hk (And.intro hbx2 (D0.out.2.1.keeps hk (by simp))))); clear hm hk hbx2)
      | (go_at_call 105; refine (rlimit_any _ r U M (D0.out.1.pr.keeps H2.out.2.1 (by simpa using fun h => HQ.out.2.2.2 h.symm)) g n).mono ?_; rintro e w3 ⟨rfl, hm, hk⟩; have hbx3 := hk.row H2.out.2.2.1 (by simpa using HQ.out.2.2.1.2); have hy1 := hbx3.cell (i := 1) rfl; have hy2 := hbx3.cell (i := 2) rfl; have hy3 := hbx3.cell (i := 3) rfl; have H3 := Lib.hid (And.intro hm (And.intro hk hbx3)); clear hm hk hbx3))
  have qq : (askE [g] n == askE [g] n) = true := by simp
  go_wp2_with fail
  have hke := (((Keeps.refl [b, r] w1).drew).trans H2.out.2.1 (by simp)).trans H3.out.2.1 (by simp)
  have hi1 := H1.out.2.2.2.keeps hke (by simp)
  have hi2 := H1.out.1.2.keeps hke (by simp)
  have HE := Lib.hid (And.intro hi1 (And.intro hi2 hke))
  clear hke hi1 hi2
  refine (eqints_any w3 b b ai a zs ci cap HE.out.1.1 HE.out.2.1.1).mono ?_
  rintro e w4 ⟨rfl, hk4⟩
  have H4 := Lib.hid hk4
  clear hk4
  go_wp2
  try go_ret
  exact HR.out _ _ ⟨rfl, _, _, Both12.keeps ⟨H2.out.1.keeps H3.out.2.1 (by simpa using HQ.out.2.2.2), H3.out.1, HQ.out.2.2.2⟩ H4.out (by simp) (by simp), ((H1.out.2.1.wider (by simp)).trans HE.out.2.2 (by simp)).trans H4.out (by simp)⟩

set_option maxRecDepth 100000 in
set_option maxHeartbeats 3200000 in
theorem step12_kind1 (w : World) (b r : Nat) (U M : List Int) (kd g n : Int) (a : Option Addr) (zs : List Int) (cap : Nat) (h : Both12 w b r U M) (hp : Ints2 w b r a zs) (hl : zs.length * 8 ≤ 140737488355328) (hq : kd % 5 = 1) :
    Calls Try.prog 72 #[.pointer (some ⟨b, 0, none⟩), .pointer (some ⟨r, 0, none⟩), .agg #[.int .i64 kd, .int .i64 g, .int .i64 n, .slice a zs.length cap]] w (Stepped12 w b r) := by
  refine calls_hide fun R HR => ?_
  have lb := h.pm.hd.lt
  have lr := h.pr.hd.lt
  have hbox := Row.new w [.int .i64 kd, .int .i64 g, .int .i64 n, .slice a zs.length cap] 56
  have hk0 := (Keeps.refl [] w).alloc (.cells #[.int .i64 kd, .int .i64 g, .int .i64 n, .slice a zs.length cap] 56)
  have H0 := Lib.hid (And.intro (And.intro (h.keeps hk0 (by simp) (by simp)) (hp.keeps hk0 (by simp))) (And.intro hk0 hbox))
  obtain ⟨bx, hbx⟩ : ∃ bx, bx = w.heap.size := ⟨_, rfl⟩
  have hbb : bx ≠ b ∧ bx ≠ r := by omega
  have HQ := Lib.hid (And.intro hq (And.intro hl (And.intro hbb h.ne)))
  clear hk0 hbox hq hl hbb
  go_enter Try.func72, Try.ntmps72
  go_wp2_with fail
  rw [← hbx] at H0
  rw [← hbx]
  generalize w.alloc (.cells #[.int .i64 kd, .int .i64 g, .int .i64 n, .slice a zs.length cap] 56) = w0 at *
  have lb0 := H0.out.1.1.pm.hd.lt
  have lr0 := H0.out.1.1.pr.hd.lt
  refine (copy_any w0 b a zs cap H0.out.1.2.1 HQ.out.2.1).mono ?_
  rintro e w1 ⟨ai, ci, rfl, hin, hk1⟩
  have hr1 := hk1.row H0.out.2.2 (by simp)
  have c0 := hr1.cell (i := 0) rfl
  have c1 := hr1.cell (i := 1) rfl
  have c2 := hr1.cell (i := 2) rfl
  have c3 := hr1.cell (i := 3) rfl
  have H1 := Lib.hid (And.intro (And.intro (H0.out.1.1.keeps hk1 (by simp) (by simp)) (H0.out.1.2.keeps hk1 (by simp))) (And.intro (H0.out.2.1.trans hk1 (by simp)) (And.intro hr1 (show Ints2 w1 b r ai zs from ⟨hin b lb0, hin r lr0⟩))))
  clear hk1 hr1 hin hbx lb lr lb0 lr0 h hp
  go_wp2_with fail
  refine (bring_any kd 5 _ (by omega) (by omega)).mono ?_
  rintro e y ⟨rfl, rfl⟩
  rw [HQ.out.1]
  have D0 := Lib.hid (And.intro (H1.out.1.1.keeps ((Keeps.refl [] w1).drew) (by simp) (by simp)) (And.intro (H1.out.1.2.keeps ((Keeps.refl [] w1).drew) (by simp)) (And.intro (H1.out.2.2.1.drew) (H1.out.2.2.2.keeps ((Keeps.refl [] w1).drew) (by simp)))))
  go_wp2_with fail
  go_region_held3 (fun w' => w'.cell? ⟨bx, 1, none⟩ = some (.int .i64 g) ∧ w'.cell? ⟨bx, 2, none⟩ = some (.int .i64 n) ∧ w'.cell? ⟨bx, 3, none⟩ = some (.slice a zs.length cap)) (go_keep)
    (first
      | (go_at_call 45; refine (up_any _ b U M D0.out.1.pm g n).mono ?_; rintro e w2 ⟨rfl, hm, hk⟩; have hbx2 := hk.row D0.out.2.2.1 (by simpa using HQ.out.2.2.1.1); have hz1 := hbx2.cell (i := 1) rfl; have hz2 := hbx2.cell (i := 2) rfl; have hz3 := hbx2.cell (i := 3) rfl; have H2 := Lib.hid (And.intro hm (And.intro hk (And.intro hbx2 (D0.out.2.1.keeps hk (by simp))))); clear hm hk hbx2)
      | (go_at_call 106; refine (rup_any _ r U M (D0.out.1.pr.keeps H2.out.2.1 (by simpa using fun h => HQ.out.2.2.2 h.symm)) g n).mono ?_; rintro e w3 ⟨rfl, hm, hk⟩; have hbx3 := hk.row H2.out.2.2.1 (by simpa using HQ.out.2.2.1.2); have hy1 := hbx3.cell (i := 1) rfl; have hy2 := hbx3.cell (i := 2) rfl; have hy3 := hbx3.cell (i := 3) rfl; have H3 := Lib.hid (And.intro hm (And.intro hk hbx3)); clear hm hk hbx3))
  have qq : (upE U M g n == upE U M g n) = true := by simp
  go_wp2_with fail
  have hke := (((Keeps.refl [b, r] w1).drew).trans H2.out.2.1 (by simp)).trans H3.out.2.1 (by simp)
  have hi1 := H1.out.2.2.2.keeps hke (by simp)
  have hi2 := H1.out.1.2.keeps hke (by simp)
  have HE := Lib.hid (And.intro hi1 (And.intro hi2 hke))
  clear hke hi1 hi2
  refine (eqints_any w3 b b ai a zs ci cap HE.out.1.1 HE.out.2.1.1).mono ?_
  rintro e w4 ⟨rfl, hk4⟩
  have H4 := Lib.hid hk4
  clear hk4
  go_wp2
  try go_ret
  exact HR.out _ _ ⟨rfl, _, _, Both12.keeps ⟨H2.out.1.keeps H3.out.2.1 (by simpa using HQ.out.2.2.2), H3.out.1, HQ.out.2.2.2⟩ H4.out (by simp) (by simp), ((H1.out.2.1.wider (by simp)).trans HE.out.2.2 (by simp)).trans H4.out (by simp)⟩

set_option maxRecDepth 100000 in
set_option maxHeartbeats 3200000 in
theorem step12_kind2 (w : World) (b r : Nat) (U M : List Int) (kd g n : Int) (a : Option Addr) (zs : List Int) (cap : Nat) (h : Both12 w b r U M) (hp : Ints2 w b r a zs) (hl : zs.length * 8 ≤ 140737488355328) (hq : kd % 5 = 2) :
    Calls Try.prog 72 #[.pointer (some ⟨b, 0, none⟩), .pointer (some ⟨r, 0, none⟩), .agg #[.int .i64 kd, .int .i64 g, .int .i64 n, .slice a zs.length cap]] w (Stepped12 w b r) := by
  refine calls_hide fun R HR => ?_
  have lb := h.pm.hd.lt
  have lr := h.pr.hd.lt
  have hbox := Row.new w [.int .i64 kd, .int .i64 g, .int .i64 n, .slice a zs.length cap] 56
  have hk0 := (Keeps.refl [] w).alloc (.cells #[.int .i64 kd, .int .i64 g, .int .i64 n, .slice a zs.length cap] 56)
  have H0 := Lib.hid (And.intro (And.intro (h.keeps hk0 (by simp) (by simp)) (hp.keeps hk0 (by simp))) (And.intro hk0 hbox))
  obtain ⟨bx, hbx⟩ : ∃ bx, bx = w.heap.size := ⟨_, rfl⟩
  have hbb : bx ≠ b ∧ bx ≠ r := by omega
  have HQ := Lib.hid (And.intro hq (And.intro hl (And.intro hbb h.ne)))
  clear hk0 hbox hq hl hbb
  go_enter Try.func72, Try.ntmps72
  go_wp2_with fail
  rw [← hbx] at H0
  rw [← hbx]
  generalize w.alloc (.cells #[.int .i64 kd, .int .i64 g, .int .i64 n, .slice a zs.length cap] 56) = w0 at *
  have lb0 := H0.out.1.1.pm.hd.lt
  have lr0 := H0.out.1.1.pr.hd.lt
  refine (copy_any w0 b a zs cap H0.out.1.2.1 HQ.out.2.1).mono ?_
  rintro e w1 ⟨ai, ci, rfl, hin, hk1⟩
  have hr1 := hk1.row H0.out.2.2 (by simp)
  have c0 := hr1.cell (i := 0) rfl
  have c1 := hr1.cell (i := 1) rfl
  have c2 := hr1.cell (i := 2) rfl
  have c3 := hr1.cell (i := 3) rfl
  have H1 := Lib.hid (And.intro (And.intro (H0.out.1.1.keeps hk1 (by simp) (by simp)) (H0.out.1.2.keeps hk1 (by simp))) (And.intro (H0.out.2.1.trans hk1 (by simp)) (And.intro hr1 (show Ints2 w1 b r ai zs from ⟨hin b lb0, hin r lr0⟩))))
  clear hk1 hr1 hin hbx lb lr lb0 lr0 h hp
  go_wp2_with fail
  refine (bring_any kd 5 _ (by omega) (by omega)).mono ?_
  rintro e y ⟨rfl, rfl⟩
  rw [HQ.out.1]
  have D0 := Lib.hid (And.intro (H1.out.1.1.keeps ((Keeps.refl [] w1).drew) (by simp) (by simp)) (And.intro (H1.out.1.2.keeps ((Keeps.refl [] w1).drew) (by simp)) (And.intro (H1.out.2.2.1.drew) (H1.out.2.2.2.keeps ((Keeps.refl [] w1).drew) (by simp)))))
  go_wp2_with fail
  go_region_held3 (fun w' => w'.cell? ⟨bx, 1, none⟩ = some (.int .i64 g) ∧ w'.cell? ⟨bx, 2, none⟩ = some (.int .i64 n) ∧ w'.cell? ⟨bx, 3, none⟩ = some (.slice a zs.length cap)) (go_keep)
    (first
      | (go_at_call 46; refine (down_any _ b U M D0.out.1.pm g n).mono ?_; rintro e w2 ⟨rfl, hm, hk⟩; have hbx2 := hk.row D0.out.2.2.1 (by simpa using HQ.out.2.2.1.1); have hz1 := hbx2.cell (i := 1) rfl; have hz2 := hbx2.cell (i := 2) rfl; have hz3 := hbx2.cell (i := 3) rfl; have H2 := Lib.hid (And.intro hm (And.intro hk (And.intro hbx2 (D0.out.2.1.keeps hk (by simp))))); clear hm hk hbx2)
      | (go_at_call 107; refine (rdown_any _ r U M (D0.out.1.pr.keeps H2.out.2.1 (by simpa using fun h => HQ.out.2.2.2 h.symm)) g n).mono ?_; rintro e w3 ⟨rfl, hm, hk⟩; have hbx3 := hk.row H2.out.2.2.1 (by simpa using HQ.out.2.2.1.2); have hy1 := hbx3.cell (i := 1) rfl; have hy2 := hbx3.cell (i := 2) rfl; have hy3 := hbx3.cell (i := 3) rfl; have H3 := Lib.hid (And.intro hm (And.intro hk hbx3)); clear hm hk hbx3))
  have qq : (downE U g n == downE U g n) = true := by simp
  go_wp2_with fail
  have hke := (((Keeps.refl [b, r] w1).drew).trans H2.out.2.1 (by simp)).trans H3.out.2.1 (by simp)
  have hi1 := H1.out.2.2.2.keeps hke (by simp)
  have hi2 := H1.out.1.2.keeps hke (by simp)
  have HE := Lib.hid (And.intro hi1 (And.intro hi2 hke))
  clear hke hi1 hi2
  refine (eqints_any w3 b b ai a zs ci cap HE.out.1.1 HE.out.2.1.1).mono ?_
  rintro e w4 ⟨rfl, hk4⟩
  have H4 := Lib.hid hk4
  clear hk4
  go_wp2
  try go_ret
  exact HR.out _ _ ⟨rfl, _, _, Both12.keeps ⟨H2.out.1.keeps H3.out.2.1 (by simpa using HQ.out.2.2.2), H3.out.1, HQ.out.2.2.2⟩ H4.out (by simp) (by simp), ((H1.out.2.1.wider (by simp)).trans HE.out.2.2 (by simp)).trans H4.out (by simp)⟩

set_option maxRecDepth 100000 in
set_option maxHeartbeats 3200000 in
theorem step12_kind4 (w : World) (b r : Nat) (U M : List Int) (kd g n : Int) (a : Option Addr) (zs : List Int) (cap : Nat) (h : Both12 w b r U M) (hp : Ints2 w b r a zs) (hl : zs.length * 8 ≤ 140737488355328) (hq : kd % 5 = 4) :
    Calls Try.prog 72 #[.pointer (some ⟨b, 0, none⟩), .pointer (some ⟨r, 0, none⟩), .agg #[.int .i64 kd, .int .i64 g, .int .i64 n, .slice a zs.length cap]] w (Stepped12 w b r) := by
  refine calls_hide fun R HR => ?_
  have lb := h.pm.hd.lt
  have lr := h.pr.hd.lt
  have hbox := Row.new w [.int .i64 kd, .int .i64 g, .int .i64 n, .slice a zs.length cap] 56
  have hk0 := (Keeps.refl [] w).alloc (.cells #[.int .i64 kd, .int .i64 g, .int .i64 n, .slice a zs.length cap] 56)
  have H0 := Lib.hid (And.intro (And.intro (h.keeps hk0 (by simp) (by simp)) (hp.keeps hk0 (by simp))) (And.intro hk0 hbox))
  obtain ⟨bx, hbx⟩ : ∃ bx, bx = w.heap.size := ⟨_, rfl⟩
  have hbb : bx ≠ b ∧ bx ≠ r := by omega
  have HQ := Lib.hid (And.intro hq (And.intro hl (And.intro hbb h.ne)))
  clear hk0 hbox hq hl hbb
  go_enter Try.func72, Try.ntmps72
  go_wp2_with fail
  rw [← hbx] at H0
  rw [← hbx]
  generalize w.alloc (.cells #[.int .i64 kd, .int .i64 g, .int .i64 n, .slice a zs.length cap] 56) = w0 at *
  have lb0 := H0.out.1.1.pm.hd.lt
  have lr0 := H0.out.1.1.pr.hd.lt
  refine (copy_any w0 b a zs cap H0.out.1.2.1 HQ.out.2.1).mono ?_
  rintro e w1 ⟨ai, ci, rfl, hin, hk1⟩
  have hr1 := hk1.row H0.out.2.2 (by simp)
  have c0 := hr1.cell (i := 0) rfl
  have c1 := hr1.cell (i := 1) rfl
  have c2 := hr1.cell (i := 2) rfl
  have c3 := hr1.cell (i := 3) rfl
  have H1 := Lib.hid (And.intro (And.intro (H0.out.1.1.keeps hk1 (by simp) (by simp)) (H0.out.1.2.keeps hk1 (by simp))) (And.intro (H0.out.2.1.trans hk1 (by simp)) (And.intro hr1 (show Ints2 w1 b r ai zs from ⟨hin b lb0, hin r lr0⟩))))
  clear hk1 hr1 hin hbx lb lr lb0 lr0 h hp
  go_wp2_with fail
  refine (bring_any kd 5 _ (by omega) (by omega)).mono ?_
  rintro e y ⟨rfl, rfl⟩
  rw [HQ.out.1]
  have D0 := Lib.hid (And.intro (H1.out.1.1.keeps ((Keeps.refl [] w1).drew) (by simp) (by simp)) (And.intro (H1.out.1.2.keeps ((Keeps.refl [] w1).drew) (by simp)) (And.intro (H1.out.2.2.1.drew) (H1.out.2.2.2.keeps ((Keeps.refl [] w1).drew) (by simp)))))
  go_wp2_with fail
  go_region_held3 (fun w' => w'.cell? ⟨bx, 1, none⟩ = some (.int .i64 g) ∧ w'.cell? ⟨bx, 2, none⟩ = some (.int .i64 n) ∧ w'.cell? ⟨bx, 3, none⟩ = some (.slice a zs.length cap)) (go_keep)
    (first
      | (go_at_call 42; refine (back_any _ b U M D0.out.1.pm ai zs ci n D0.out.2.2.2.1).mono ?_; rintro e w2 ⟨rfl, hm, hk⟩; have hbx2 := hk.row D0.out.2.2.1 (by simpa using HQ.out.2.2.1.1); have hz1 := hbx2.cell (i := 1) rfl; have hz2 := hbx2.cell (i := 2) rfl; have hz3 := hbx2.cell (i := 3) rfl; have H2 := Lib.hid (And.intro hm (And.intro hk (And.intro hbx2 (D0.out.2.1.keeps hk (by simp))))); clear hm hk hbx2)
      | (go_at_call 109; refine (rback_any _ r U M (D0.out.1.pr.keeps H2.out.2.1 (by simpa using fun h => HQ.out.2.2.2 h.symm)) a zs cap n H2.out.2.2.2.2).mono ?_; rintro e w3 ⟨rfl, hm, hk⟩; have hbx3 := hk.row H2.out.2.2.1 (by simpa using HQ.out.2.2.1.2); have hy1 := hbx3.cell (i := 1) rfl; have hy2 := hbx3.cell (i := 2) rfl; have hy3 := hbx3.cell (i := 3) rfl; have H3 := Lib.hid (And.intro hm (And.intro hk hbx3)); clear hm hk hbx3))
  have qq : (backE U zs n == backE U zs n) = true := by simp
  go_wp2_with fail
  have hke := (((Keeps.refl [b, r] w1).drew).trans H2.out.2.1 (by simp)).trans H3.out.2.1 (by simp)
  have hi1 := H1.out.2.2.2.keeps hke (by simp)
  have hi2 := H1.out.1.2.keeps hke (by simp)
  have HE := Lib.hid (And.intro hi1 (And.intro hi2 hke))
  clear hke hi1 hi2
  refine (eqints_any w3 b b ai a zs ci cap HE.out.1.1 HE.out.2.1.1).mono ?_
  rintro e w4 ⟨rfl, hk4⟩
  have H4 := Lib.hid hk4
  clear hk4
  go_wp2
  try go_ret
  exact HR.out _ _ ⟨rfl, _, _, Both12.keeps ⟨H2.out.1.keeps H3.out.2.1 (by simpa using HQ.out.2.2.2), H3.out.1, HQ.out.2.2.2⟩ H4.out (by simp) (by simp), ((H1.out.2.1.wider (by simp)).trans HE.out.2.2 (by simp)).trans H4.out (by simp)⟩

set_option maxRecDepth 100000 in
set_option maxHeartbeats 3200000 in
theorem step12_kind3 (w : World) (b r : Nat) (U M : List Int) (kd g n : Int) (a : Option Addr) (zs : List Int) (cap : Nat) (h : Both12 w b r U M) (hp : Ints2 w b r a zs) (hl : zs.length * 8 ≤ 140737488355328) (hq : kd % 5 = 3) :
    Calls Try.prog 72 #[.pointer (some ⟨b, 0, none⟩), .pointer (some ⟨r, 0, none⟩), .agg #[.int .i64 kd, .int .i64 g, .int .i64 n, .slice a zs.length cap]] w (Stepped12 w b r) := by
  refine calls_hide fun R HR => ?_
  have lb := h.pm.hd.lt
  have lr := h.pr.hd.lt
  have hbox := Row.new w [.int .i64 kd, .int .i64 g, .int .i64 n, .slice a zs.length cap] 56
  have hk0 := (Keeps.refl [] w).alloc (.cells #[.int .i64 kd, .int .i64 g, .int .i64 n, .slice a zs.length cap] 56)
  have H0 := Lib.hid (And.intro (And.intro (h.keeps hk0 (by simp) (by simp)) (hp.keeps hk0 (by simp))) (And.intro hk0 hbox))
  obtain ⟨bx, hbx⟩ : ∃ bx, bx = w.heap.size := ⟨_, rfl⟩
  have hbb : bx ≠ b ∧ bx ≠ r := by omega
  have HQ := Lib.hid (And.intro hq (And.intro hl (And.intro hbb h.ne)))
  clear hk0 hbox hq hl hbb
  go_enter Try.func72, Try.ntmps72
  go_wp2_with fail
  rw [← hbx] at H0
  rw [← hbx]
  generalize w.alloc (.cells #[.int .i64 kd, .int .i64 g, .int .i64 n, .slice a zs.length cap] 56) = w0 at *
  have lb0 := H0.out.1.1.pm.hd.lt
  have lr0 := H0.out.1.1.pr.hd.lt
  refine (copy_any w0 b a zs cap H0.out.1.2.1 HQ.out.2.1).mono ?_
  rintro e w1 ⟨ai, ci, rfl, hin, hk1⟩
  have hr1 := hk1.row H0.out.2.2 (by simp)
  have c0 := hr1.cell (i := 0) rfl
  have c1 := hr1.cell (i := 1) rfl
  have c2 := hr1.cell (i := 2) rfl
  have c3 := hr1.cell (i := 3) rfl
  have H1 := Lib.hid (And.intro (And.intro (H0.out.1.1.keeps hk1 (by simp) (by simp)) (H0.out.1.2.keeps hk1 (by simp))) (And.intro (H0.out.2.1.trans hk1 (by simp)) (And.intro hr1 (show Ints2 w1 b r ai zs from ⟨hin b lb0, hin r lr0⟩))))
  clear hk1 hr1 hin hbx lb lr lb0 lr0 h hp
  go_wp2_with fail
  refine (bring_any kd 5 _ (by omega) (by omega)).mono ?_
  rintro e y ⟨rfl, rfl⟩
  rw [HQ.out.1]
  have D0 := Lib.hid (And.intro (H1.out.1.1.keeps ((Keeps.refl [] w1).drew) (by simp) (by simp)) (And.intro (H1.out.1.2.keeps ((Keeps.refl [] w1).drew) (by simp)) (And.intro (H1.out.2.2.1.drew) (H1.out.2.2.2.keeps ((Keeps.refl [] w1).drew) (by simp)))))
  go_wp2_with fail
  refine (try_any w1 b U M H1.out.1.1.pm ai zs ci n H1.out.2.2.2.1).mono ?_
  rintro e w2 ⟨rfl, hm, hk⟩
  have hbx2 := hk.row H1.out.2.2.1 (by simpa using HQ.out.2.2.1.1)
  have hz2 := hbx2.cell (i := 2) rfl
  have hz3 := hbx2.cell (i := 3) rfl
  have H2 := Lib.hid (And.intro hm (And.intro hk (And.intro hbx2 (H1.out.1.2.keeps hk (by simp)))))
  clear hm hk hbx2
  go_wp2_with fail
  refine (rtry_any w2 r U M (H1.out.1.1.pr.keeps H2.out.2.1 (by simpa using fun h => HQ.out.2.2.2 h.symm)) a zs cap n H2.out.2.2.2.2).mono ?_
  rintro e w3 ⟨rfl, hm, hk⟩
  have hbx3 := hk.row H2.out.2.2.1 (by simpa using HQ.out.2.2.1.2)
  have hy3 := hbx3.cell (i := 3) rfl
  have H3 := Lib.hid (And.intro hm (And.intro hk hbx3))
  clear hm hk hbx3
  generalize hrr : tryR U M zs n = rr at *
  have HRR := Lib.hid hrr
  clear hrr
  have q1 : (rr.1 == rr.1) = true := by simp
  have qq : (rr.2 == rr.2) = true := by simp
  go_wp2_with fail
  have hke := ((Keeps.refl [b, r] w1).trans H2.out.2.1 (by simp)).trans H3.out.2.1 (by simp)
  have hi1 := H1.out.2.2.2.keeps hke (by simp)
  have hi2 := H1.out.1.2.keeps hke (by simp)
  have HE := Lib.hid (And.intro hi1 (And.intro hi2 hke))
  clear hke hi1 hi2
  refine (eqints_any w3 b b ai a zs ci cap HE.out.1.1 HE.out.2.1.1).mono ?_
  rintro e w4 ⟨rfl, hk4⟩
  have H4 := Lib.hid hk4
  clear hk4
  go_wp2
  try go_ret
  exact HR.out _ _ ⟨rfl, _, _, Both12.keeps ⟨H2.out.1.keeps H3.out.2.1 (by simpa using HQ.out.2.2.2), H3.out.1, HQ.out.2.2.2⟩ H4.out (by simp) (by simp), ((H1.out.2.1.wider (by simp)).trans HE.out.2.2 (by simp)).trans H4.out (by simp)⟩

theorem step12_any (w : World) (b r : Nat) (U M : List Int) (kd g n : Int) (a : Option Addr) (zs : List Int) (cap : Nat) (h : Both12 w b r U M) (hp : Ints2 w b r a zs) (hl : zs.length * 8 ≤ 140737488355328) :
    Calls Try.prog 72 #[.pointer (some ⟨b, 0, none⟩), .pointer (some ⟨r, 0, none⟩), .agg #[.int .i64 kd, .int .i64 g, .int .i64 n, .slice a zs.length cap]] w (Stepped12 w b r) := by
  have hk : kd % 5 = 0 ∨ kd % 5 = 1 ∨ kd % 5 = 2 ∨ kd % 5 = 3 ∨ kd % 5 = 4 := by omega
  rcases hk with hk | hk | hk | hk | hk
  · exact step12_kind0 w b r U M kd g n a zs cap h hp hl hk
  · exact step12_kind1 w b r U M kd g n a zs cap h hp hl hk
  · exact step12_kind2 w b r U M kd g n a zs cap h hp hl hk
  · exact step12_kind3 w b r U M kd g n a zs cap h hp hl hk
  · exact step12_kind4 w b r U M kd g n a zs cap h hp hl hk

end Go.Proofs.Ytlndpljhcempoaa
