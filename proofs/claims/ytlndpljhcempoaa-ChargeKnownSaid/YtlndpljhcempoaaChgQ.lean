/- The package charge: New, Limit, Up, Down, Used, Most: what each answers and leaves. Condition: the counter's block reads so. -/
import Derived.Test.YtlndpljhcempoaaChgP
namespace Go.Proofs.Ytlndpljhcempoaa
open Go.RowKit

theorem toNat_sub_one (k : Nat) : ((k : Int) + 1 - 1).toNat = k := by omega

theorem ask_one_zero {g n : Int} (h : askE [g] n = 0) : ∃ k : Nat, g = (k : Int) + 1 ∧ k < 16 ∧ 0 ≤ n ∧ n ≤ 9007199254740991 := by
  obtain ⟨h1, _, _, _, h5, h6⟩ := ask_zero h
  have : 1 ≤ g ∧ g ≤ 16 := h1 0 (by simp)
  exact ⟨(g - 1).toNat, by omega, by omega, h5, h6⟩

theorem limM_ne {M : List Int} {g n : Int} (h : ¬ askE [g] n = 0) : limM M g n = M := by unfold limM; rw [if_pos h]
theorem limM_ok {M : List Int} {k : Nat} {n : Int} (h : askE [(k : Int) + 1] n = 0) : limM M ((k : Int) + 1) n = M.set k n := by unfold limM; rw [if_neg (by rw [h]; simp), toNat_sub_one]
theorem upE_ne {U M : List Int} {g n : Int} (h : ¬ askE [g] n = 0) : upE U M g n = askE [g] n ∧ upU U M g n = U := by
  have e : upE U M g n = askE [g] n := by unfold upE; rw [if_pos h]
  refine ⟨e, ?_⟩
  unfold upU; rw [if_pos (by rw [e]; exact h)]
theorem upE_no {U M : List Int} {k : Nat} {n : Int} (h : askE [(k : Int) + 1] n = 0) (h' : M.getD k 0 - U.getD k 0 < n) : upE U M ((k : Int) + 1) n = 120 ∧ upU U M ((k : Int) + 1) n = U := by
  have e : upE U M ((k : Int) + 1) n = 120 := by unfold upE; rw [if_neg (by rw [h]; simp), toNat_sub_one, if_pos h']
  refine ⟨e, ?_⟩
  unfold upU; rw [if_pos (by rw [e]; decide)]
theorem upE_ok {U M : List Int} {k : Nat} {n : Int} (h : askE [(k : Int) + 1] n = 0) (h'' : n ≤ M.getD k 0 - U.getD k 0) : upE U M ((k : Int) + 1) n = 0 ∧ upU U M ((k : Int) + 1) n = U.set k (U.getD k 0 + n) := by
  have h' : ¬ M.getD k 0 - U.getD k 0 < n := by omega
  have e : upE U M ((k : Int) + 1) n = 0 := by unfold upE; rw [if_neg (by rw [h]; simp), toNat_sub_one, if_neg h']
  refine ⟨e, ?_⟩
  unfold upU; rw [if_neg (by rw [e]; simp), toNat_sub_one]
theorem downE_ne {U : List Int} {g n : Int} (h : ¬ askE [g] n = 0) : downE U g n = askE [g] n ∧ downU U g n = U := by
  have e : downE U g n = askE [g] n := by unfold downE; rw [if_pos h]
  refine ⟨e, ?_⟩
  unfold downU; rw [if_pos (by rw [e]; exact h)]
theorem downE_no {U : List Int} {k : Nat} {n : Int} (h : askE [(k : Int) + 1] n = 0) (h' : U.getD k 0 < n) : downE U ((k : Int) + 1) n = 2 ∧ downU U ((k : Int) + 1) n = U := by
  have e : downE U ((k : Int) + 1) n = 2 := by unfold downE; rw [if_neg (by rw [h]; simp), toNat_sub_one, if_pos h']
  refine ⟨e, ?_⟩
  unfold downU; rw [if_pos (by rw [e]; decide)]
theorem downE_ok {U : List Int} {k : Nat} {n : Int} (h : askE [(k : Int) + 1] n = 0) (h'' : n ≤ U.getD k 0) : downE U ((k : Int) + 1) n = 0 ∧ downU U ((k : Int) + 1) n = U.set k (U.getD k 0 - n) := by
  have h' : ¬ U.getD k 0 < n := by omega
  have e : downE U ((k : Int) + 1) n = 0 := by unfold downE; rw [if_neg (by rw [h]; simp), toNat_sub_one, if_neg h']
  refine ⟨e, ?_⟩
  unfold downU; rw [if_neg (by rw [e]; simp), toNat_sub_one]

/-- One group, laid as a path. -/
theorem one_path (w : World) (b : Nat) (hb : b < w.heap.size) (g : Int) : IntsAt (w.alloc (.cells #[.int .i64 g] 3)) b (some ⟨w.heap.size, 0, none⟩) [g] :=
  IntsAt.ofRow (Row.new w [.int .i64 g] 3) (by omega) (by simp)

set_option maxRecDepth 100000 in
set_option maxHeartbeats 800000 in
theorem limit_any (w : World) (b : Nat) (U M : List Int) (h : ChgIs w b U M) (g n : Int) :
    Calls Try.prog 38 #[.pointer (some ⟨b, 0, none⟩), .int .i64 g, .int .i64 n] w fun e w' => e = .returned (.int .i64 (askE [g] n)) ∧ ChgIs w' b U (limM M g n) ∧ Keeps [b] w w' := by
  refine calls_hide fun R HR => ?_
  have hk0 := (Keeps.refl [] w).alloc (.cells #[.int .i64 g] 3)
  have H0 := Lib.hid (And.intro (h.keeps hk0 (by simp)) (And.intro hk0 (one_path w b h.hd.lt g)))
  clear hk0
  go_enter Try.func38, Try.ntmps38
  go_wp2_with fail
  refine (asked_any _ b U M H0.out.1 _ [g] 1 n H0.out.2.2).mono ?_
  rintro e w1 ⟨rfl, hk⟩
  have H1 := Lib.hid (And.intro (H0.out.1.keeps hk (by simp)) (H0.out.2.1.trans hk (by simp)))
  clear hk
  by_cases he : askE [g] n = 0
  · obtain ⟨k, rfl, hk, hn, hn'⟩ := ask_one_zero he
    rw [limM_ok he, he] at HR
    rw [he]
    have c1 := H1.out.1.cm hk
    have fr := H1.out.1.hd.free (17 + k)
    have hi : 0 ≤ (k : Int) ∧ (k : Int) < 16 := by omega
    clear he
    go_wp2
    try go_ret
    exact HR.out _ _ ⟨rfl, H1.out.1.setM k ⟨hn, hn'⟩, (H1.out.2.wider (by simp)).set (.inl (by simp)) _⟩
  · rw [limM_ne he] at HR
    have q : (askE [g] n != 0) = true := by simp [he]
    clear he
    generalize askE [g] n = ee at *
    go_wp2
    try go_ret
    exact HR.out _ _ ⟨rfl, H1.out.1, H1.out.2.wider (by simp)⟩

set_option maxRecDepth 100000 in
set_option maxHeartbeats 800000 in
theorem up_any (w : World) (b : Nat) (U M : List Int) (h : ChgIs w b U M) (g n : Int) :
    Calls Try.prog 45 #[.pointer (some ⟨b, 0, none⟩), .int .i64 g, .int .i64 n] w fun e w' => e = .returned (.int .i64 (upE U M g n)) ∧ ChgIs w' b (upU U M g n) M ∧ Keeps [b] w w' := by
  refine calls_hide fun R HR => ?_
  have hk0 := (Keeps.refl [] w).alloc (.cells #[.int .i64 g] 3)
  have H0 := Lib.hid (And.intro (h.keeps hk0 (by simp)) (And.intro hk0 (one_path w b h.hd.lt g)))
  clear hk0
  go_enter Try.func45, Try.ntmps45
  go_wp2_with fail
  refine (asked_any _ b U M H0.out.1 _ [g] 1 n H0.out.2.2).mono ?_
  rintro e w1 ⟨rfl, hk⟩
  have H1 := Lib.hid (And.intro (H0.out.1.keeps hk (by simp)) (H0.out.2.1.trans hk (by simp)))
  clear hk
  by_cases he : askE [g] n = 0
  · obtain ⟨k, rfl, hk, hn, hn'⟩ := ask_one_zero he
    have hno := Lib.hid (upE_no (U := U) (M := M) he)
    have hok := Lib.hid (upE_ok (U := U) (M := M) he)
    have hset := Lib.hid (fun (w' : World) (hw : ChgIs w' b U M) => hw.setU k (x := U.getD k 0 + n) hk)
    rw [he]
    have c1 := H1.out.1.cm hk
    have c2 := H1.out.1.cu hk
    have b1 := H1.out.1.bm hk
    have b2 := H1.out.1.bu hk
    have fr := H1.out.1.hd.free (1 + k)
    have hi : 0 ≤ (k : Int) ∧ (k : Int) < 16 := by omega
    clear he
    generalize M.getD k 0 = m at *
    generalize U.getD k 0 = u at *
    go_wp2
    go_quiet (fail)
    by_cases hlt : m - u < n
    · obtain ⟨e1, e2⟩ := hno.out hlt
      rw [e1, e2] at HR
      go_wp2
      try go_ret
      exact HR.out _ _ ⟨rfl, H1.out.1.keeps ((Keeps.refl [] _).drewN _) (by simp), (H1.out.2.wider (by simp)).drewN _⟩
    · obtain ⟨e1, e2⟩ := hok.out (by omega)
      rw [e1, e2] at HR
      have hb : 0 ≤ u + n ∧ u + n ≤ 9007199254740991 := by omega
      go_wp2
      go_region
      go_wp2
      try go_ret
      refine HR.out _ _ ⟨rfl, ?_, ?_⟩
      · exact hset.out _ (H1.out.1.keeps ((Keeps.refl [] _).drewN _) (by simp)) hb
      · exact ((H1.out.2.wider (by simp)).drewN _).set (.inl (by simp)) _
  · obtain ⟨e1, e2⟩ := upE_ne (U := U) (M := M) he
    rw [e1, e2] at HR
    have q : (askE [g] n != 0) = true := by simp [he]
    clear he e1 e2
    generalize askE [g] n = ee at *
    go_wp2
    try go_ret
    exact HR.out _ _ ⟨rfl, H1.out.1, H1.out.2.wider (by simp)⟩

set_option maxRecDepth 100000 in
set_option maxHeartbeats 800000 in
theorem down_any (w : World) (b : Nat) (U M : List Int) (h : ChgIs w b U M) (g n : Int) :
    Calls Try.prog 46 #[.pointer (some ⟨b, 0, none⟩), .int .i64 g, .int .i64 n] w fun e w' => e = .returned (.int .i64 (downE U g n)) ∧ ChgIs w' b (downU U g n) M ∧ Keeps [b] w w' := by
  refine calls_hide fun R HR => ?_
  have hk0 := (Keeps.refl [] w).alloc (.cells #[.int .i64 g] 3)
  have H0 := Lib.hid (And.intro (h.keeps hk0 (by simp)) (And.intro hk0 (one_path w b h.hd.lt g)))
  clear hk0
  go_enter Try.func46, Try.ntmps46
  go_wp2_with fail
  refine (asked_any _ b U M H0.out.1 _ [g] 1 n H0.out.2.2).mono ?_
  rintro e w1 ⟨rfl, hk⟩
  have H1 := Lib.hid (And.intro (H0.out.1.keeps hk (by simp)) (H0.out.2.1.trans hk (by simp)))
  clear hk
  by_cases he : askE [g] n = 0
  · obtain ⟨k, rfl, hk, hn, hn'⟩ := ask_one_zero he
    have hno := Lib.hid (downE_no (U := U) he)
    have hok := Lib.hid (downE_ok (U := U) he)
    have hset := Lib.hid (fun (w' : World) (hw : ChgIs w' b U M) => hw.setU k (x := U.getD k 0 - n) hk)
    rw [he]
    have c2 := H1.out.1.cu hk
    have b2 := H1.out.1.bu hk
    have fr := H1.out.1.hd.free (1 + k)
    have hi : 0 ≤ (k : Int) ∧ (k : Int) < 16 := by omega
    clear he
    generalize U.getD k 0 = u at *
    by_cases hlt : u < n
    · obtain ⟨e1, e2⟩ := hno.out hlt
      rw [e1, e2] at HR
      go_wp2
      try go_ret
      exact HR.out _ _ ⟨rfl, H1.out.1, H1.out.2.wider (by simp)⟩
    · obtain ⟨e1, e2⟩ := hok.out (by omega)
      rw [e1, e2] at HR
      have hb : 0 ≤ u - n ∧ u - n ≤ 9007199254740991 := by omega
      go_wp2
      go_region
      go_wp2
      try go_ret
      refine HR.out _ _ ⟨rfl, ?_, ?_⟩
      · exact hset.out _ (H1.out.1.keeps ((Keeps.refl [] _).drew) (by simp)) hb
      · exact ((H1.out.2.wider (by simp)).drew).set (.inl (by simp)) _
  · obtain ⟨e1, e2⟩ := downE_ne (U := U) he
    rw [e1, e2] at HR
    have q : (askE [g] n != 0) = true := by simp [he]
    clear he e1 e2
    generalize askE [g] n = ee at *
    go_wp2
    try go_ret
    exact HR.out _ _ ⟨rfl, H1.out.1, H1.out.2.wider (by simp)⟩


set_option maxRecDepth 100000 in
set_option maxHeartbeats 400000 in
theorem used_any (w : World) (b : Nat) (U M : List Int) (h : ChgIs w b U M) (g : Int) :
    Calls Try.prog 41 #[.pointer (some ⟨b, 0, none⟩), .int .i64 g] w fun e w' => e = .returned (.int .i64 (usedN U g)) ∧ w = w' := by
  refine calls_hide fun R HR => ?_
  have hmade := h.made
  by_cases hg : 1 ≤ g ∧ g ≤ 16
  · obtain ⟨k, rfl, hk⟩ : ∃ k : Nat, g = (k : Int) + 1 ∧ k < 16 := ⟨(g - 1).toNat, by omega, by omega⟩
    have hu : usedN U ((k : Int) + 1) = U.getD k 0 := by
      have : okG ((k : Int) + 1) = true := by simp [okG]; omega
      unfold usedN; rw [if_pos this, toNat_sub_one]
    have c1 := h.cu hk
    have hi : 0 ≤ (k : Int) ∧ (k : Int) < 16 := by omega
    rw [hu] at HR
    clear hu
    generalize U.getD k 0 = u at *
    go_enter Try.func41, Try.ntmps41
    go_wp2_with (go_at_call 89; refine (cnone_ok w b hmade).mono ?_; rintro e w' ⟨rfl, rfl⟩)
    try go_ret
    exact HR.out _ _ ⟨rfl, rfl⟩
  · have hu : usedN U g = 0 := by
      have : okG g = false := by simp [okG]; omega
      unfold usedN; rw [this]; rfl
    rw [hu] at HR
    clear hu
    by_cases h1 : g < 1
    · go_enter Try.func41, Try.ntmps41
      go_wp2_with (go_at_call 89; refine (cnone_ok w b hmade).mono ?_; rintro e w' ⟨rfl, rfl⟩)
      try go_ret
      exact HR.out _ _ ⟨rfl, rfl⟩
    · have h2 : 16 < g := by omega
      clear hg
      go_enter Try.func41, Try.ntmps41
      go_wp2_with (go_at_call 89; refine (cnone_ok w b hmade).mono ?_; rintro e w' ⟨rfl, rfl⟩)
      try go_ret
      exact HR.out _ _ ⟨rfl, rfl⟩

set_option maxRecDepth 100000 in
set_option maxHeartbeats 400000 in
theorem most_any (w : World) (b : Nat) (U M : List Int) (h : ChgIs w b U M) (g : Int) :
    Calls Try.prog 43 #[.pointer (some ⟨b, 0, none⟩), .int .i64 g] w fun e w' => e = .returned (.int .i64 (usedN M g)) ∧ w = w' := by
  refine calls_hide fun R HR => ?_
  have hmade := h.made
  by_cases hg : 1 ≤ g ∧ g ≤ 16
  · obtain ⟨k, rfl, hk⟩ : ∃ k : Nat, g = (k : Int) + 1 ∧ k < 16 := ⟨(g - 1).toNat, by omega, by omega⟩
    have hu : usedN M ((k : Int) + 1) = M.getD k 0 := by
      have : okG ((k : Int) + 1) = true := by simp [okG]; omega
      unfold usedN; rw [if_pos this, toNat_sub_one]
    have c1 := h.cm hk
    have hi : 0 ≤ (k : Int) ∧ (k : Int) < 16 := by omega
    rw [hu] at HR
    clear hu
    generalize M.getD k 0 = u at *
    go_enter Try.func43, Try.ntmps43
    go_wp2_with (go_at_call 89; refine (cnone_ok w b hmade).mono ?_; rintro e w' ⟨rfl, rfl⟩)
    try go_ret
    exact HR.out _ _ ⟨rfl, rfl⟩
  · have hu : usedN M g = 0 := by
      have : okG g = false := by simp [okG]; omega
      unfold usedN; rw [this]; rfl
    rw [hu] at HR
    clear hu
    by_cases h1 : g < 1
    · go_enter Try.func43, Try.ntmps43
      go_wp2_with (go_at_call 89; refine (cnone_ok w b hmade).mono ?_; rintro e w' ⟨rfl, rfl⟩)
      try go_ret
      exact HR.out _ _ ⟨rfl, rfl⟩
    · have h2 : 16 < g := by omega
      clear hg
      go_enter Try.func43, Try.ntmps43
      go_wp2_with (go_at_call 89; refine (cnone_ok w b hmade).mono ?_; rintro e w' ⟨rfl, rfl⟩)
      try go_ret
      exact HR.out _ _ ⟨rfl, rfl⟩

set_option maxRecDepth 100000 in
set_option maxHeartbeats 400000 in
theorem limit_none (w : World) (v : Value) (h : NoChg w v) (g n : Int) :
    Calls Try.prog 38 #[v, .int .i64 g, .int .i64 n] w fun e w' => e = .returned (.int .i64 1) ∧ Keeps [] w w' := by
  refine calls_hide fun R HR => ?_
  have hk0 := (Keeps.refl [] w).alloc (.cells #[.int .i64 g] 3)
  have H0 := Lib.hid (And.intro (h.keeps hk0 (by simp)) hk0)
  clear hk0
  go_enter Try.func38, Try.ntmps38
  go_wp2_with (go_at_call 87; refine (asked_none _ v H0.out.1 _ n).mono ?_; rintro e w' ⟨rfl, rfl⟩)
  try go_ret
  exact HR.out _ _ ⟨rfl, H0.out.2⟩

set_option maxRecDepth 100000 in
set_option maxHeartbeats 400000 in
theorem up_none (w : World) (v : Value) (h : NoChg w v) (g n : Int) :
    Calls Try.prog 45 #[v, .int .i64 g, .int .i64 n] w fun e w' => e = .returned (.int .i64 1) ∧ Keeps [] w w' := by
  refine calls_hide fun R HR => ?_
  have hk0 := (Keeps.refl [] w).alloc (.cells #[.int .i64 g] 3)
  have H0 := Lib.hid (And.intro (h.keeps hk0 (by simp)) hk0)
  clear hk0
  go_enter Try.func45, Try.ntmps45
  go_wp2_with (go_at_call 87; refine (asked_none _ v H0.out.1 _ n).mono ?_; rintro e w' ⟨rfl, rfl⟩)
  try go_ret
  exact HR.out _ _ ⟨rfl, H0.out.2⟩

set_option maxRecDepth 100000 in
set_option maxHeartbeats 400000 in
theorem down_none (w : World) (v : Value) (h : NoChg w v) (g n : Int) :
    Calls Try.prog 46 #[v, .int .i64 g, .int .i64 n] w fun e w' => e = .returned (.int .i64 1) ∧ Keeps [] w w' := by
  refine calls_hide fun R HR => ?_
  have hk0 := (Keeps.refl [] w).alloc (.cells #[.int .i64 g] 3)
  have H0 := Lib.hid (And.intro (h.keeps hk0 (by simp)) hk0)
  clear hk0
  go_enter Try.func46, Try.ntmps46
  go_wp2_with (go_at_call 87; refine (asked_none _ v H0.out.1 _ n).mono ?_; rintro e w' ⟨rfl, rfl⟩)
  try go_ret
  exact HR.out _ _ ⟨rfl, H0.out.2⟩

set_option maxRecDepth 100000 in
set_option maxHeartbeats 400000 in
theorem used_none (w : World) (v : Value) (h : NoChg w v) (g : Int) :
    Calls Try.prog 41 #[v, .int .i64 g] w fun e w' => e = .returned (.int .i64 0) ∧ w = w' := by
  refine calls_hide fun R HR => ?_
  go_enter Try.func41, Try.ntmps41
  go_wp2_with (go_at_call 89; refine (cnone_none w v h).mono ?_; rintro e w' ⟨rfl, rfl⟩)
  try go_ret
  exact HR.out _ _ ⟨rfl, rfl⟩

set_option maxRecDepth 100000 in
set_option maxHeartbeats 400000 in
theorem most_none (w : World) (v : Value) (h : NoChg w v) (g : Int) :
    Calls Try.prog 43 #[v, .int .i64 g] w fun e w' => e = .returned (.int .i64 0) ∧ w = w' := by
  refine calls_hide fun R HR => ?_
  go_enter Try.func43, Try.ntmps43
  go_wp2_with (go_at_call 89; refine (cnone_none w v h).mono ?_; rintro e w' ⟨rfl, rfl⟩)
  try go_ret
  exact HR.out _ _ ⟨rfl, rfl⟩

end Go.Proofs.Ytlndpljhcempoaa
