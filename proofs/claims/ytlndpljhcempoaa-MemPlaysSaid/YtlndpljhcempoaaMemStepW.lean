/- One access of a memory and of the document's answer for it (wainscotlaw03's step): alike. Condition: both read as the same words. -/
import Derived.Test.YtlndpljhcempoaaMemOthersW
import Derived.Deep.RegionHeld3
namespace Go.Proofs.Ytlndpljhcempoaa
open Go.RowKit

/-- Both memories, alike. -/
structure Both (w : World) (bm bw rm rw : Nat) (ws : List Int) (c : Int) : Prop where
  m : MemIs w bm bw ws c
  r : RefIs w rm rw ws c
  n1 : bm ≠ rm
  n2 : bm ≠ rw
  n3 : bw ≠ rm
  n4 : bw ≠ rw

theorem Both.keeps {w w' : World} {bm bw rm rw : Nat} {ws : List Int} {c : Int} {S : List Nat} (h : Both w bm bw rm rw ws c) (hk : Keeps S w w') (h1 : bm ∉ S) (h2 : bw ∉ S) (h3 : rm ∉ S) (h4 : rw ∉ S) : Both w' bm bw rm rw ws c :=
  ⟨h.m.keeps hk h1 h2, h.r.keeps hk h3 h4, h.n1, h.n2, h.n3, h.n4⟩

theorem wd_app_set (us : List Int) (k : Nat) (x : Int) (rest : List Value) (h : k < us.length) : wd (us.set k x) ++ rest = (wd us ++ rest).set k (.int .u64 x) := by
  rw [← wd_set, List.set_append_left _ _ (by simpa [wd] using h)]

theorem row_wd_set {w : World} {g : Nat} {us : List Int} {rest : List Value} (h : Row w g 29 (wd us ++ rest)) {k : Nat} (hk : k < us.length) (x : Int) : Row (w.setCell ⟨g, k, none⟩ (.int .u64 x)) g 29 (wd (us.set k x) ++ rest) := by
  rw [wd_app_set _ _ _ _ hk]; exact h.set k _

/-- What a step leaves. -/
def Stepped (w : World) (bm bw rm rw : Nat) (n : Nat) (e : Ending) (w' : World) : Prop :=
  e = .returned (.bool true) ∧ ∃ ws' c', Both w' bm bw rm rw ws' c' ∧ ws'.length = n ∧ Keeps [bm, bw, rm, rw] w w'

set_option maxRecDepth 100000 in
set_option maxHeartbeats 1600000 in
theorem step3_kind0 (w : World) (bm bw rm rw : Nat) (ws : List Int) (c : Int) (kd pl A B C D : Int) (h : Both w bm bw rm rw ws c) (hq : kd % 6 = 0) :
    Calls Try.prog 30 #[.pointer (some ⟨bm, 0, none⟩), .pointer (some ⟨rm, 0, none⟩), .agg #[.int .i64 kd, .int .i64 pl, .int .u64 A, .int .u64 B, .int .u64 C, .int .u64 D]] w (Stepped w bm bw rm rw ws.length) := by
  refine calls_hide fun R HR => ?_
  have l1 := h.m.hd.lt
  have l2 := h.m.wr.lt
  have l3 := h.r.hd.lt
  have l4 := h.r.wr.lt
  have hbox := Row.new w [.int .i64 kd, .int .i64 pl, .int .u64 A, .int .u64 B, .int .u64 C, .int .u64 D] 41
  have hk0 := (Keeps.refl [] w).alloc (.cells #[.int .i64 kd, .int .i64 pl, .int .u64 A, .int .u64 B, .int .u64 C, .int .u64 D] 41)
  have H0 := Lib.hid (And.intro (h.keeps hk0 (by simp) (by simp) (by simp) (by simp)) (And.intro hk0 hbox))
  clear hk0 hbox
  have HQ := Lib.hid hq
  clear hq
  go_enter Try.func30, Try.ntmps30
  go_wp2_with fail
  refine (bring_any kd 6 _ (by omega) (by omega)).mono ?_
  rintro e w1 ⟨rfl, rfl⟩
  rw [HQ.out]
  go_wp2_with fail
  refine (load_any _ bm bw ws c H0.out.1.m pl).mono ?_
  rintro e w1 ⟨rfl, hm, hk⟩
  have hbx := hk.row H0.out.2.2 (by simp; omega)
  have hx1 := hbx.cell (i := 1) rfl
  have H1 := Lib.hid (And.intro hm hk)
  clear hm hk hbx
  go_wp2_with fail
  refine (rload_any _ rm rw ws c (H0.out.1.r.keeps H1.out.2 (by simp; have := h.n1; have := h.n3; omega) (by simp; have := h.n2; have := h.n4; omega)) pl).mono ?_
  rintro e w2 ⟨rfl, hr, hk2⟩
  have H2 := Lib.hid (And.intro hr hk2)
  have qa : (ldV ws pl == ldV ws pl) = true := by simp
  have qb : (errB (inb ws pl 1) == errB (inb ws pl 1)) = true := by simp
  clear hr hk2
  go_wp2
  try go_ret
  refine HR.out _ _ ⟨rfl, ws, _, ⟨H1.out.1.keeps H2.out.2 (by simp; have := h.n1; have := h.n2; omega) (by simp; have := h.n3; have := h.n4; omega), H2.out.1, h.n1, h.n2, h.n3, h.n4⟩, rfl, ?_⟩
  exact ((H0.out.2.1.wider (by simp)).trans H1.out.2 (by simp)).trans H2.out.2 (by simp)

set_option maxRecDepth 100000 in
set_option maxHeartbeats 1600000 in
theorem step3_kind1 (w : World) (bm bw rm rw : Nat) (ws : List Int) (c : Int) (kd pl A B C D : Int) (h : Both w bm bw rm rw ws c) (hq : kd % 6 = 1) :
    Calls Try.prog 30 #[.pointer (some ⟨bm, 0, none⟩), .pointer (some ⟨rm, 0, none⟩), .agg #[.int .i64 kd, .int .i64 pl, .int .u64 A, .int .u64 B, .int .u64 C, .int .u64 D]] w (Stepped w bm bw rm rw ws.length) := by
  refine calls_hide fun R HR => ?_
  have l1 := h.m.hd.lt
  have l2 := h.m.wr.lt
  have l3 := h.r.hd.lt
  have l4 := h.r.wr.lt
  have hbox := Row.new w [.int .i64 kd, .int .i64 pl, .int .u64 A, .int .u64 B, .int .u64 C, .int .u64 D] 41
  have hk0 := (Keeps.refl [] w).alloc (.cells #[.int .i64 kd, .int .i64 pl, .int .u64 A, .int .u64 B, .int .u64 C, .int .u64 D] 41)
  have H0 := Lib.hid (And.intro (h.keeps hk0 (by simp) (by simp) (by simp) (by simp)) (And.intro hk0 hbox))
  clear hk0 hbox
  have HQ := Lib.hid hq
  clear hq
  go_enter Try.func30, Try.ntmps30
  go_wp2_with fail
  refine (bring_any kd 6 _ (by omega) (by omega)).mono ?_
  rintro e w1 ⟨rfl, rfl⟩
  rw [HQ.out]
  go_wp2_with fail
  have D0 := Lib.hid (H0.out.1.keeps ((Keeps.refl [] _).drew) (by simp) (by simp) (by simp) (by simp))
  go_region_held3 (fun w' => w'.cell? ⟨w.heap.size, 1, none⟩ = some (.int .i64 pl) ∧ w'.cell? ⟨w.heap.size, 2, none⟩ = some (.int .u64 A)) (go_keep)
    (first
      | (go_at_call 26; refine (store_any _ bm bw ws c D0.out.m pl A).mono ?_; rintro e w1 ⟨rfl, hm, hk⟩; have hbx := hk.row H0.out.2.2.drew (by simp; omega); have hx1 := hbx.cell (i := 1) rfl; have hx2 := hbx.cell (i := 2) rfl; have H1 := Lib.hid (And.intro hm (And.intro hk hbx)); clear hm hk hbx)
      | (go_at_call 82; refine (rstore_any _ rm rw ws c (D0.out.r.keeps H1.out.2.1 (by simp; have := h.n1; have := h.n3; omega) (by simp; have := h.n2; have := h.n4; omega)) pl A).mono ?_; rintro e w2 ⟨rfl, hr, hk2⟩; have hbx2 := hk2.row H1.out.2.2 (by simp; omega); have hz1 := hbx2.cell (i := 1) rfl; have hz2 := hbx2.cell (i := 2) rfl; have H2 := Lib.hid (And.intro hr hk2); clear hr hk2 hbx2))
  have qb : (errB (inb ws pl 1) == errB (inb ws pl 1)) = true := by simp
  go_wp2
  try go_ret
  refine HR.out _ _ ⟨rfl, _, _, ⟨H1.out.1.keeps H2.out.2 (by simp; have := h.n1; have := h.n2; omega) (by simp; have := h.n3; have := h.n4; omega), H2.out.1, h.n1, h.n2, h.n3, h.n4⟩, st_len _ _ _, ?_⟩
  exact ((H0.out.2.1.drew.wider (by simp)).trans H1.out.2.1 (by simp)).trans H2.out.2 (by simp)

set_option maxRecDepth 100000 in
set_option maxHeartbeats 1600000 in
theorem step3_kind2 (w : World) (bm bw rm rw : Nat) (ws : List Int) (c : Int) (kd pl A B C D : Int) (h : Both w bm bw rm rw ws c) (hq : kd % 6 = 2) :
    Calls Try.prog 30 #[.pointer (some ⟨bm, 0, none⟩), .pointer (some ⟨rm, 0, none⟩), .agg #[.int .i64 kd, .int .i64 pl, .int .u64 A, .int .u64 B, .int .u64 C, .int .u64 D]] w (Stepped w bm bw rm rw ws.length) := by
  refine calls_hide fun R HR => ?_
  have l1 := h.m.hd.lt
  have l2 := h.m.wr.lt
  have l3 := h.r.hd.lt
  have l4 := h.r.wr.lt
  have hbox := Row.new w [.int .i64 kd, .int .i64 pl, .int .u64 A, .int .u64 B, .int .u64 C, .int .u64 D] 41
  have hk0 := (Keeps.refl [] w).alloc (.cells #[.int .i64 kd, .int .i64 pl, .int .u64 A, .int .u64 B, .int .u64 C, .int .u64 D] 41)
  have H0 := Lib.hid (And.intro (h.keeps hk0 (by simp) (by simp) (by simp) (by simp)) (And.intro hk0 hbox))
  clear hk0 hbox
  have HQ := Lib.hid hq
  clear hq
  go_enter Try.func30, Try.ntmps30
  go_wp2_with fail
  refine (bring_any kd 6 _ (by omega) (by omega)).mono ?_
  rintro e w1 ⟨rfl, rfl⟩
  rw [HQ.out]
  go_wp2_with fail
  refine (cas_any _ bm bw ws c H0.out.1.m pl A B).mono ?_
  rintro e w1 ⟨rfl, hm, hk⟩
  have hbx := hk.row H0.out.2.2 (by simp; omega)
  have hx1 := hbx.cell (i := 1) rfl
  have hx2 := hbx.cell (i := 2) rfl
  have hx3 := hbx.cell (i := 3) rfl
  have hx4 := hbx.cell (i := 4) rfl
  have hx5 := hbx.cell (i := 5) rfl
  have H1 := Lib.hid (And.intro hm hk)
  clear hm hk hbx
  go_wp2_with fail
  refine (rcas_any _ rm rw ws c (H0.out.1.r.keeps H1.out.2 (by simp; have := h.n1; have := h.n3; omega) (by simp; have := h.n2; have := h.n4; omega)) pl A B).mono ?_
  rintro e w2 ⟨rfl, hr, hk2⟩
  have H2 := Lib.hid (And.intro hr hk2)
  have qa : (casB ws pl A == casB ws pl A) = true := by simp
  have qb : (errB (inb ws pl 1) == errB (inb ws pl 1)) = true := by simp
  clear hr hk2
  go_wp2
  try go_ret
  refine HR.out _ _ ⟨rfl, _, _, ⟨H1.out.1.keeps H2.out.2 (by simp; have := h.n1; have := h.n2; omega) (by simp; have := h.n3; have := h.n4; omega), H2.out.1, h.n1, h.n2, h.n3, h.n4⟩, cas_len _ _ _ _, ?_⟩
  exact ((H0.out.2.1.wider (by simp)).trans H1.out.2 (by simp)).trans H2.out.2 (by simp)

set_option maxRecDepth 100000 in
set_option maxHeartbeats 1600000 in
theorem step3_kind3 (w : World) (bm bw rm rw : Nat) (ws : List Int) (c : Int) (kd pl A B C D : Int) (h : Both w bm bw rm rw ws c) (hq : kd % 6 = 3) :
    Calls Try.prog 30 #[.pointer (some ⟨bm, 0, none⟩), .pointer (some ⟨rm, 0, none⟩), .agg #[.int .i64 kd, .int .i64 pl, .int .u64 A, .int .u64 B, .int .u64 C, .int .u64 D]] w (Stepped w bm bw rm rw ws.length) := by
  refine calls_hide fun R HR => ?_
  have l1 := h.m.hd.lt
  have l2 := h.m.wr.lt
  have l3 := h.r.hd.lt
  have l4 := h.r.wr.lt
  have hbox := Row.new w [.int .i64 kd, .int .i64 pl, .int .u64 A, .int .u64 B, .int .u64 C, .int .u64 D] 41
  have hk0 := (Keeps.refl [] w).alloc (.cells #[.int .i64 kd, .int .i64 pl, .int .u64 A, .int .u64 B, .int .u64 C, .int .u64 D] 41)
  have H0 := Lib.hid (And.intro (h.keeps hk0 (by simp) (by simp) (by simp) (by simp)) (And.intro hk0 hbox))
  clear hk0 hbox
  have HQ := Lib.hid hq
  clear hq
  go_enter Try.func30, Try.ntmps30
  go_wp2_with fail
  refine (bring_any kd 6 _ (by omega) (by omega)).mono ?_
  rintro e w1 ⟨rfl, rfl⟩
  rw [HQ.out]
  go_wp2_with fail
  refine (cas2_any _ bm bw ws c H0.out.1.m pl A B C D).mono ?_
  rintro e w1 ⟨rfl, hm, hk⟩
  have hbx := hk.row H0.out.2.2 (by simp; omega)
  have hx1 := hbx.cell (i := 1) rfl
  have hx2 := hbx.cell (i := 2) rfl
  have hx3 := hbx.cell (i := 3) rfl
  have hx4 := hbx.cell (i := 4) rfl
  have hx5 := hbx.cell (i := 5) rfl
  have H1 := Lib.hid (And.intro hm hk)
  clear hm hk hbx
  go_wp2_with fail
  refine (rcas2_any _ rm rw ws c (H0.out.1.r.keeps H1.out.2 (by simp; have := h.n1; have := h.n3; omega) (by simp; have := h.n2; have := h.n4; omega)) pl A B C D).mono ?_
  rintro e w2 ⟨rfl, hr, hk2⟩
  have H2 := Lib.hid (And.intro hr hk2)
  have qa : (cas2B ws pl A B == cas2B ws pl A B) = true := by simp
  have qb : (errB (inb ws pl 2) == errB (inb ws pl 2)) = true := by simp
  clear hr hk2
  go_wp2
  try go_ret
  refine HR.out _ _ ⟨rfl, _, _, ⟨H1.out.1.keeps H2.out.2 (by simp; have := h.n1; have := h.n2; omega) (by simp; have := h.n3; have := h.n4; omega), H2.out.1, h.n1, h.n2, h.n3, h.n4⟩, cas2_len _ _ _ _ _ _, ?_⟩
  exact ((H0.out.2.1.wider (by simp)).trans H1.out.2 (by simp)).trans H2.out.2 (by simp)

set_option maxRecDepth 100000 in
set_option maxHeartbeats 1600000 in
theorem step3_kind4 (w : World) (bm bw rm rw : Nat) (ws : List Int) (c : Int) (kd pl A B C D : Int) (h : Both w bm bw rm rw ws c) (hq : kd % 6 = 4) :
    Calls Try.prog 30 #[.pointer (some ⟨bm, 0, none⟩), .pointer (some ⟨rm, 0, none⟩), .agg #[.int .i64 kd, .int .i64 pl, .int .u64 A, .int .u64 B, .int .u64 C, .int .u64 D]] w (Stepped w bm bw rm rw ws.length) := by
  refine calls_hide fun R HR => ?_
  have l1 := h.m.hd.lt
  have l2 := h.m.wr.lt
  have l3 := h.r.hd.lt
  have l4 := h.r.wr.lt
  have hbox := Row.new w [.int .i64 kd, .int .i64 pl, .int .u64 A, .int .u64 B, .int .u64 C, .int .u64 D] 41
  have hk0 := (Keeps.refl [] w).alloc (.cells #[.int .i64 kd, .int .i64 pl, .int .u64 A, .int .u64 B, .int .u64 C, .int .u64 D] 41)
  have H0 := Lib.hid (And.intro (h.keeps hk0 (by simp) (by simp) (by simp) (by simp)) (And.intro hk0 hbox))
  clear hk0 hbox
  have HQ := Lib.hid hq
  clear hq
  go_enter Try.func30, Try.ntmps30
  go_wp2_with fail
  refine (bring_any kd 6 _ (by omega) (by omega)).mono ?_
  rintro e w1 ⟨rfl, rfl⟩
  rw [HQ.out]
  go_wp2_with fail
  refine (add_any _ bm bw ws c H0.out.1.m pl A).mono ?_
  rintro e w1 ⟨rfl, hm, hk⟩
  have hbx := hk.row H0.out.2.2 (by simp; omega)
  have hx1 := hbx.cell (i := 1) rfl
  have hx2 := hbx.cell (i := 2) rfl
  have hx3 := hbx.cell (i := 3) rfl
  have hx4 := hbx.cell (i := 4) rfl
  have hx5 := hbx.cell (i := 5) rfl
  have H1 := Lib.hid (And.intro hm hk)
  clear hm hk hbx
  go_wp2_with fail
  refine (radd_any _ rm rw ws c (H0.out.1.r.keeps H1.out.2 (by simp; have := h.n1; have := h.n3; omega) (by simp; have := h.n2; have := h.n4; omega)) pl A).mono ?_
  rintro e w2 ⟨rfl, hr, hk2⟩
  have H2 := Lib.hid (And.intro hr hk2)
  have qa : (ldV ws pl == ldV ws pl) = true := by simp
  have qb : (errB (inb ws pl 1) == errB (inb ws pl 1)) = true := by simp
  clear hr hk2
  go_wp2
  try go_ret
  refine HR.out _ _ ⟨rfl, _, _, ⟨H1.out.1.keeps H2.out.2 (by simp; have := h.n1; have := h.n2; omega) (by simp; have := h.n3; have := h.n4; omega), H2.out.1, h.n1, h.n2, h.n3, h.n4⟩, add_len _ _ _, ?_⟩
  exact ((H0.out.2.1.wider (by simp)).trans H1.out.2 (by simp)).trans H2.out.2 (by simp)

set_option maxRecDepth 100000 in
set_option maxHeartbeats 1600000 in
theorem step3_kind5 (w : World) (bm bw rm rw : Nat) (ws : List Int) (c : Int) (kd pl A B C D : Int) (h : Both w bm bw rm rw ws c) (h0 : 0 < ws.length) (hq : kd % 6 = 5) :
    Calls Try.prog 30 #[.pointer (some ⟨bm, 0, none⟩), .pointer (some ⟨rm, 0, none⟩), .agg #[.int .i64 kd, .int .i64 pl, .int .u64 A, .int .u64 B, .int .u64 C, .int .u64 D]] w (Stepped w bm bw rm rw ws.length) := by
  refine calls_hide fun R HR => ?_
  have l1 := h.m.hd.lt
  have l2 := h.m.wr.lt
  have l3 := h.r.hd.lt
  have l4 := h.r.wr.lt
  have hbox := Row.new w [.int .i64 kd, .int .i64 pl, .int .u64 A, .int .u64 B, .int .u64 C, .int .u64 D] 41
  have hk0 := (Keeps.refl [] w).alloc (.cells #[.int .i64 kd, .int .i64 pl, .int .u64 A, .int .u64 B, .int .u64 C, .int .u64 D] 41)
  have H0 := Lib.hid (And.intro (h.keeps hk0 (by simp) (by simp) (by simp) (by simp)) (And.intro hk0 hbox))
  clear hk0 hbox
  have HQ := Lib.hid hq
  clear hq
  go_enter Try.func30, Try.ntmps30
  go_wp2_with fail
  refine (bring_any kd 6 _ (by omega) (by omega)).mono ?_
  rintro e w1 ⟨rfl, rfl⟩
  rw [HQ.out]
  go_wp2_with fail
  refine (words_any _ bm bw ws c H0.out.1.m h0).mono ?_
  rintro e w1 ⟨v, rfl, ⟨g, cap, rest, rfl, hg, hrow⟩, hk⟩
  have hb1 := H0.out.1.keeps hk (by simp) (by simp) (by simp) (by simp)
  have H1 := Lib.hid (And.intro hb1 (And.intro hk (And.intro hrow hg)))
  clear hb1 hk hrow hg
  go_wp2_with fail
  refine (rwords_any _ rm rw ws c H1.out.1.r h0).mono ?_
  rintro e w2 ⟨v, rfl, ⟨g2, cap2, rest2, rfl, hg2, hrow2⟩, hk2⟩
  have hb2 := H1.out.1.keeps hk2 (by simp) (by simp) (by simp) (by simp)
  have hrow1 := hk2.row H1.out.2.2.1 (by simp)
  have H2 := Lib.hid (And.intro hb2 (And.intro hk2 (And.intro hrow1 hrow2)))
  clear hb2 hk2 hrow2 hrow1 hg2
  go_wp2_with fail
  refine (eqwords_any _ ws g g2 cap cap2 rest rest2 H2.out.2.2.1 H2.out.2.2.2 H0.out.1.m.len).mono ?_
  rintro e w3 ⟨rfl, n, rfl⟩
  go_wp2_with fail
  have hl := H0.out.1.m.len
  go_loopw [25] (fun i wr => ∃ (k : Nat) (us : List Int), k ≤ ws.length ∧ i = .int .i64 k ∧ us.length = ws.length ∧ Row wr g 29 (wd us ++ rest) ∧ Keeps [g] w2 wr) (fun i _ => ws.length - (intOf i).toNat)
  case atStart => exact ⟨0, ws, by omega, rfl, rfl, H2.out.2.2.1.drewN n, (Keeps.refl _ _).drewN n⟩
  case round =>
    obtain ⟨k, us, hk, rfl, hul, hrw, hkw⟩ := hrel
    by_cases hlt : k < ws.length
    · have hc := hrw.cell (wd_app (ws := us) (k := k) (by omega) rest)
      have hf := hrw.free k
      have HW := Lib.hid (And.intro hul (And.intro hrw hkw))
      generalize us.getD k 0 = x at *
      clear hul hrw hkw
      go_wp2
      go_roundw
      case rel => exact ⟨k + 1, _, by omega, by go_num, (List.length_set ..).trans HW.out.1, row_wd_set HW.out.2.1 (Nat.lt_of_lt_of_eq hlt HW.out.1.symm) _, HW.out.2.2.set (by simp) _⟩
      case measure => simp [intOf]; omega
    · have HW := Lib.hid hkw
      clear hrw hkw hul
      go_wp2
      try go_ret
      have hgs : w.heap.size < g := by have := H1.out.2.2.2; simp at this; omega
      refine HR.out _ _ ⟨rfl, ws, _, H2.out.1.keeps HW.out (by simp; omega) (by simp; omega) (by simp; omega) (by simp; omega), rfl, ?_⟩
      exact (((H0.out.2.1.wider (by simp)).trans H1.out.2.1 (by simp)).trans H2.out.2.1 (by simp)).trans HW.out (by simp; omega)

/-- A step, of whatever kind. -/
theorem step3_any (w : World) (bm bw rm rw : Nat) (ws : List Int) (c : Int) (kd pl A B C D : Int) (h : Both w bm bw rm rw ws c) (h0 : 0 < ws.length) :
    Calls Try.prog 30 #[.pointer (some ⟨bm, 0, none⟩), .pointer (some ⟨rm, 0, none⟩), .agg #[.int .i64 kd, .int .i64 pl, .int .u64 A, .int .u64 B, .int .u64 C, .int .u64 D]] w (Stepped w bm bw rm rw ws.length) := by
  have h6 : kd % 6 = 0 ∨ kd % 6 = 1 ∨ kd % 6 = 2 ∨ kd % 6 = 3 ∨ kd % 6 = 4 ∨ kd % 6 = 5 := by omega
  rcases h6 with h6 | h6 | h6 | h6 | h6 | h6
  · exact step3_kind0 w bm bw rm rw ws c kd pl A B C D h h6
  · exact step3_kind1 w bm bw rm rw ws c kd pl A B C D h h6
  · exact step3_kind2 w bm bw rm rw ws c kd pl A B C D h h6
  · exact step3_kind3 w bm bw rm rw ws c kd pl A B C D h h6
  · exact step3_kind4 w bm bw rm rw ws c kd pl A B C D h h6
  · exact step3_kind5 w bm bw rm rw ws c kd pl A B C D h h0 h6

end Go.Proofs.Ytlndpljhcempoaa
