/- The document's counters (wainscotref12): New, Limit, Up, Down, Used, Limits. Condition: the block reads so. -/
import Derived.Test.YtlndpljhcempoaaRchA
namespace Go.Proofs.Ytlndpljhcempoaa
open Go.RowKit

def limAll (j : Nat) : List Value := List.replicate j (.int .i64 9007199254740991) ++ List.replicate (17 - j) (.int .i64 0)

theorem limAll_succ (j : Nat) (hj : j < 17) : (limAll j).set j (.int .i64 9007199254740991) = limAll (j + 1) := by
  unfold limAll
  rw [List.set_append_right _ _ (by simp), List.length_replicate, Nat.sub_self, show 17 - j = (17 - (j + 1)) + 1 from by omega, List.replicate_succ, List.set_cons_zero, List.replicate_succ', List.append_assoc]
  rfl

theorem limAll_len (j : Nat) (hj : j ≤ 17) : (limAll j).length = 17 := by simp [limAll]; omega

theorem Row.setTail {w : World} {b : Nat} {t : TypeId} {vs us : List Value} (h : Row w b t (vs ++ us)) (k : Nat) (v : Value) : Row (w.setCell ⟨b, vs.length + k, none⟩ v) b t (vs ++ us.set k v) := by
  have := h.set (vs.length + k) v
  rw [List.set_append_right _ _ (by omega), show vs.length + k - vs.length = k from by omega] at this
  exact this

set_option maxRecDepth 100000 in
set_option maxHeartbeats 800000 in
theorem rnew12_any (w : World) :
    Calls Try.prog 71 #[] w fun e w' => e = .returned (.pointer (some ⟨w.heap.size, 0, none⟩)) ∧ RchIs w' w.heap.size (List.replicate 16 0) (List.replicate 16 9007199254740991) ∧ Keeps [] w w' := by
  refine calls_hide fun R HR => ?_
  have hr0 : Row (w.alloc (.cells (List.replicate 17 (Value.int .i64 0) ++ limAll 0).toArray 143)) w.heap.size 143 (List.replicate 17 (.int .i64 0) ++ limAll 0) := Row.new w _ 143
  have H0 := Lib.hid (And.intro hr0 ((Keeps.refl [] w).alloc (.cells (List.replicate 17 (Value.int .i64 0) ++ limAll 0).toArray 143)))
  clear hr0
  go_enter Try.func71, Try.ntmps71
  go_wp2_with fail
  go_loopw [2] (fun i wr => ∃ j : Nat, j ≤ 17 ∧ i = .int .i64 j ∧ Row wr w.heap.size 143 (List.replicate 17 (.int .i64 0) ++ limAll j) ∧ Keeps [] w wr) (fun i _ => 17 - (intOf i).toNat)
  case atStart => exact ⟨0, by omega, rfl, H0.out.1, H0.out.2⟩
  case round =>
    obtain ⟨j, hj, rfl, hc, hk⟩ := hrel
    have HM := Lib.hid (And.intro hc hk)
    clear hc hk
    by_cases hlt : j < 17
    · have fr := HM.out.1.free (17 + j)
      have hlj : 17 + j < (List.replicate 17 (Value.int .i64 0) ++ limAll j).length := by rw [List.length_append, limAll_len j hj]; simp; omega
      obtain ⟨v0, hv0⟩ : ∃ v0, (List.replicate 17 (Value.int .i64 0) ++ limAll j)[17 + j]? = some v0 := ⟨_, List.getElem?_eq_getElem hlj⟩
      have c0 := HM.out.1.cell hv0
      have hi : 0 ≤ (j : Int) ∧ (j : Int) < 17 := by omega
      have hst := HM.out.1.setTail j (.int .i64 9007199254740991)
      rw [limAll_succ j hlt, List.length_replicate] at hst
      have HS := Lib.hid hst
      clear hst hv0 hlj
      go_wp2
      go_roundw
      case rel => exact ⟨j + 1, by omega, by go_num, HS.out, HM.out.2.set (.inr (by show _ ≤ w.heap.size; omega)) _⟩
      case measure => simp [intOf]; omega
    · obtain rfl : j = 17 := by omega
      have hfin : RchIs wr w.heap.size (List.replicate 16 0) (List.replicate 16 9007199254740991) := ⟨HM.out.1, rfl, rfl, fun x hx => by rw [(List.mem_replicate.1 hx).2]; omega, fun x hx => by rw [(List.mem_replicate.1 hx).2]; omega⟩
      have HF := Lib.hid hfin
      clear hfin
      go_wp2
      try go_ret
      exact HR.out _ _ ⟨rfl, HF.out, HM.out.2⟩

set_option maxRecDepth 100000 in
set_option maxHeartbeats 800000 in
theorem rlimit_any (w : World) (b : Nat) (U M : List Int) (h : RchIs w b U M) (g n : Int) :
    Calls Try.prog 105 #[.pointer (some ⟨b, 0, none⟩), .int .i64 g, .int .i64 n] w fun e w' => e = .returned (.int .i64 (askE [g] n)) ∧ RchIs w' b U (limM M g n) ∧ Keeps [b] w w' := by
  refine calls_hide fun R HR => ?_
  have hk0 := (Keeps.refl [] w).alloc (.cells #[.int .i64 g] 3)
  have H0 := Lib.hid (And.intro (h.keeps hk0 (by simp)) (And.intro hk0 (one_path w b h.hd.lt g)))
  clear hk0
  go_enter Try.func105, Try.ntmps105
  go_wp2_with fail
  refine (rasked_any _ b _ [g] 1 n H0.out.2.2).mono ?_
  rintro e w1 ⟨rfl, hk⟩
  have H1 := Lib.hid (And.intro (H0.out.1.keeps hk (by simp)) (H0.out.2.1.trans hk (by simp)))
  clear hk
  by_cases he : askE [g] n = 0
  · obtain ⟨k, rfl, hk, hn, hn'⟩ := ask_one_zero he
    rw [limM_ok he, he] at HR
    rw [he]
    have c1 := H1.out.1.cm hk
    have fr := H1.out.1.hd.free (17 + (k + 1))
    have hi : 0 ≤ (k : Int) + 1 ∧ (k : Int) + 1 < 17 := by omega
    have hmt : ((k : Int) + 1).toNat = k + 1 := by omega
    clear he
    go_wp2
    try go_ret
    exact HR.out _ _ ⟨rfl, H1.out.1.setM k ⟨hn, hn'⟩, (H1.out.2.wider (by simp)).set (.inl (by simp)) _⟩
  · rw [limM_ne he] at HR
    have q : (askE [g] n != 0) = true := by simp [he]
    clear he
    generalize askE [g] n = ee at *
    go_wp2
    try go_ret
    exact HR.out _ _ ⟨rfl, H1.out.1, H1.out.2.wider (by simp)⟩

set_option maxRecDepth 100000 in
set_option maxHeartbeats 800000 in
theorem rup_any (w : World) (b : Nat) (U M : List Int) (h : RchIs w b U M) (g n : Int) :
    Calls Try.prog 106 #[.pointer (some ⟨b, 0, none⟩), .int .i64 g, .int .i64 n] w fun e w' => e = .returned (.int .i64 (upE U M g n)) ∧ RchIs w' b (upU U M g n) M ∧ Keeps [b] w w' := by
  refine calls_hide fun R HR => ?_
  have hk0 := (Keeps.refl [] w).alloc (.cells #[.int .i64 g] 3)
  have H0 := Lib.hid (And.intro (h.keeps hk0 (by simp)) (And.intro hk0 (one_path w b h.hd.lt g)))
  clear hk0
  go_enter Try.func106, Try.ntmps106
  go_wp2_with fail
  refine (rasked_any _ b _ [g] 1 n H0.out.2.2).mono ?_
  rintro e w1 ⟨rfl, hk⟩
  have H1 := Lib.hid (And.intro (H0.out.1.keeps hk (by simp)) (H0.out.2.1.trans hk (by simp)))
  clear hk
  by_cases he : askE [g] n = 0
  · obtain ⟨k, rfl, hk, hn, hn'⟩ := ask_one_zero he
    have hno := Lib.hid (upE_no (U := U) (M := M) he)
    have hok := Lib.hid (upE_ok (U := U) (M := M) he)
    have hset := Lib.hid (fun (w' : World) (hw : RchIs w' b U M) => hw.setU k (x := U.getD k 0 + n) hk)
    rw [he]
    have c1 := H1.out.1.cm hk
    have c2 := H1.out.1.cu hk
    have b1 := H1.out.1.bm hk
    have b2 := H1.out.1.bu hk
    have fr := H1.out.1.hd.free (k + 1)
    have hi : 0 ≤ (k : Int) + 1 ∧ (k : Int) + 1 < 17 := by omega
    have hmt : ((k : Int) + 1).toNat = k + 1 := by omega
    clear he
    generalize M.getD k 0 = m at *
    generalize U.getD k 0 = u at *
    go_wp2
    go_quiet (fail)
    by_cases hlt : m < u + n
    · obtain ⟨e1, e2⟩ := hno.out (by omega)
      rw [e1, e2] at HR
      go_wp2
      try go_ret
      exact HR.out _ _ ⟨rfl, H1.out.1.keeps ((Keeps.refl [] _).drewN _) (by simp), (H1.out.2.wider (by simp)).drewN _⟩
    · obtain ⟨e1, e2⟩ := hok.out (by omega)
      rw [e1, e2] at HR
      have hb : 0 ≤ u + n ∧ u + n ≤ 9007199254740991 := by omega
      go_wp2
      go_region
      go_wp2
      try go_ret
      refine HR.out _ _ ⟨rfl, ?_, ?_⟩
      · exact hset.out _ (H1.out.1.keeps ((Keeps.refl [] _).drewN _) (by simp)) hb
      · exact ((H1.out.2.wider (by simp)).drewN _).set (.inl (by simp)) _
  · obtain ⟨e1, e2⟩ := upE_ne (U := U) (M := M) he
    rw [e1, e2] at HR
    have q : (askE [g] n != 0) = true := by simp [he]
    clear he e1 e2
    generalize askE [g] n = ee at *
    go_wp2
    try go_ret
    exact HR.out _ _ ⟨rfl, H1.out.1, H1.out.2.wider (by simp)⟩

set_option maxRecDepth 100000 in
set_option maxHeartbeats 800000 in
theorem rdown_any (w : World) (b : Nat) (U M : List Int) (h : RchIs w b U M) (g n : Int) :
    Calls Try.prog 107 #[.pointer (some ⟨b, 0, none⟩), .int .i64 g, .int .i64 n] w fun e w' => e = .returned (.int .i64 (downE U g n)) ∧ RchIs w' b (downU U g n) M ∧ Keeps [b] w w' := by
  refine calls_hide fun R HR => ?_
  have hk0 := (Keeps.refl [] w).alloc (.cells #[.int .i64 g] 3)
  have H0 := Lib.hid (And.intro (h.keeps hk0 (by simp)) (And.intro hk0 (one_path w b h.hd.lt g)))
  clear hk0
  go_enter Try.func107, Try.ntmps107
  go_wp2_with fail
  refine (rasked_any _ b _ [g] 1 n H0.out.2.2).mono ?_
  rintro e w1 ⟨rfl, hk⟩
  have H1 := Lib.hid (And.intro (H0.out.1.keeps hk (by simp)) (H0.out.2.1.trans hk (by simp)))
  clear hk
  by_cases he : askE [g] n = 0
  · obtain ⟨k, rfl, hk, hn, hn'⟩ := ask_one_zero he
    have hno := Lib.hid (downE_no (U := U) he)
    have hok := Lib.hid (downE_ok (U := U) he)
    have hset := Lib.hid (fun (w' : World) (hw : RchIs w' b U M) => hw.setU k (x := U.getD k 0 - n) hk)
    rw [he]
    have c2 := H1.out.1.cu hk
    have b2 := H1.out.1.bu hk
    have fr := H1.out.1.hd.free (k + 1)
    have hi : 0 ≤ (k : Int) + 1 ∧ (k : Int) + 1 < 17 := by omega
    have hmt : ((k : Int) + 1).toNat = k + 1 := by omega
    clear he
    generalize U.getD k 0 = u at *
    by_cases hlt : u < n
    · obtain ⟨e1, e2⟩ := hno.out hlt
      rw [e1, e2] at HR
      go_wp2
      try go_ret
      exact HR.out _ _ ⟨rfl, H1.out.1, H1.out.2.wider (by simp)⟩
    · obtain ⟨e1, e2⟩ := hok.out (by omega)
      rw [e1, e2] at HR
      have hb : 0 ≤ u - n ∧ u - n ≤ 9007199254740991 := by omega
      go_wp2
      go_region
      go_wp2
      try go_ret
      refine HR.out _ _ ⟨rfl, ?_, ?_⟩
      · exact hset.out _ (H1.out.1.keeps ((Keeps.refl [] _).drew) (by simp)) hb
      · exact ((H1.out.2.wider (by simp)).drew).set (.inl (by simp)) _
  · obtain ⟨e1, e2⟩ := downE_ne (U := U) he
    rw [e1, e2] at HR
    have q : (askE [g] n != 0) = true := by simp [he]
    clear he e1 e2
    generalize askE [g] n = ee at *
    go_wp2
    try go_ret
    exact HR.out _ _ ⟨rfl, H1.out.1, H1.out.2.wider (by simp)⟩



set_option maxRecDepth 100000 in
set_option maxHeartbeats 400000 in
theorem rused_any (w : World) (b : Nat) (U M : List Int) (h : RchIs w b U M) (g : Int) :
    Calls Try.prog 73 #[.pointer (some ⟨b, 0, none⟩), .int .i64 g] w fun e w' => e = .returned (.int .i64 (usedN U g)) ∧ w = w' := by
  refine calls_hide fun R HR => ?_
  cases hg : okG g with
  | true =>
    have hg' : 1 ≤ g ∧ g ≤ 16 := by simpa [okG] using hg
    obtain ⟨k, rfl, hk⟩ : ∃ k : Nat, g = (k : Int) + 1 ∧ k < 16 := ⟨(g - 1).toNat, by omega, by omega⟩
    rw [usedN_in U k hk] at HR
    have c1 := h.cu hk
    have hi : 0 ≤ (k : Int) + 1 ∧ (k : Int) + 1 < 17 := by omega
    have hmt : ((k : Int) + 1).toNat = k + 1 := by omega
    have HG := Lib.hid hg
    clear hg hg'
    generalize U.getD k 0 = u at *
    go_enter Try.func73, Try.ntmps73
    go_wp2_with fail
    refine (rgroup_any w _).mono ?_
    rintro e w' ⟨rfl, rfl⟩
    rw [HG.out]
    go_wp2
    try go_ret
    exact HR.out _ _ ⟨rfl, rfl⟩
  | false =>
    have hu : usedN U g = 0 := by unfold usedN; rw [hg]; rfl
    rw [hu] at HR
    have HG := Lib.hid hg
    clear hu hg
    go_enter Try.func73, Try.ntmps73
    go_wp2_with fail
    refine (rgroup_any w _).mono ?_
    rintro e w' ⟨rfl, rfl⟩
    rw [HG.out]
    go_wp2
    try go_ret
    exact HR.out _ _ ⟨rfl, rfl⟩

set_option maxRecDepth 100000 in
set_option maxHeartbeats 400000 in
theorem rlimits_any (w : World) (b : Nat) (U M : List Int) (h : RchIs w b U M) (g : Int) :
    Calls Try.prog 74 #[.pointer (some ⟨b, 0, none⟩), .int .i64 g] w fun e w' => e = .returned (.int .i64 (usedN M g)) ∧ w = w' := by
  refine calls_hide fun R HR => ?_
  cases hg : okG g with
  | true =>
    have hg' : 1 ≤ g ∧ g ≤ 16 := by simpa [okG] using hg
    obtain ⟨k, rfl, hk⟩ : ∃ k : Nat, g = (k : Int) + 1 ∧ k < 16 := ⟨(g - 1).toNat, by omega, by omega⟩
    rw [usedN_in M k hk] at HR
    have c1 := h.cm hk
    have hi : 0 ≤ (k : Int) + 1 ∧ (k : Int) + 1 < 17 := by omega
    have hmt : ((k : Int) + 1).toNat = k + 1 := by omega
    have HG := Lib.hid hg
    clear hg hg'
    generalize M.getD k 0 = u at *
    go_enter Try.func74, Try.ntmps74
    go_wp2_with fail
    refine (rgroup_any w _).mono ?_
    rintro e w' ⟨rfl, rfl⟩
    rw [HG.out]
    go_wp2
    try go_ret
    exact HR.out _ _ ⟨rfl, rfl⟩
  | false =>
    have hu : usedN M g = 0 := by unfold usedN; rw [hg]; rfl
    rw [hu] at HR
    have HG := Lib.hid hg
    clear hu hg
    go_enter Try.func74, Try.ntmps74
    go_wp2_with fail
    refine (rgroup_any w _).mono ?_
    rintro e w' ⟨rfl, rfl⟩
    rw [HG.out]
    go_wp2
    try go_ret
    exact HR.out _ _ ⟨rfl, rfl⟩

end Go.Proofs.Ytlndpljhcempoaa
