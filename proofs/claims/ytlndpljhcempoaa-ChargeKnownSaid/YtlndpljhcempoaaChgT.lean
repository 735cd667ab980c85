/- The package charge: Try: the whole path, or nothing of it. Condition: the counter's block reads so; the path lies elsewhere. -/
import Derived.Test.YtlndpljhcempoaaChgD
namespace Go.Proofs.Ytlndpljhcempoaa
open Go.RowKit

theorem Caps.flag {w w' : World} {b pf : Nat} {x : Bool} {zs : List Int} (hk : Keeps [pf] w w') (hf : w.cell? ⟨pf, 0, none⟩ = some (.bool x)) : ∀ bs, Caps w b zs bs → Caps w' b zs bs
  | [], _ => trivial
  | B :: bs, ⟨h1, h2, h3, h4⟩ =>
    ⟨(hk.cell (p := ⟨B, 0, none⟩) h3 (fun hb => by
      have hb : B = pf := by simpa using hb
      rw [hb, hf] at h1
      cases h1)).trans h1, h2, Nat.lt_of_lt_of_le h3 hk.size, Caps.flag hk hf bs h4⟩

/-- The group at which the first k are refused. -/
def tryI (U M zs : List Int) (n : Int) : Nat → Option Int
  | 0 => none
  | i + 1 => match tryI U M zs n i with
    | some g => some g
    | none => if upE (chgTo U zs n i) M (zs.getD i 0) n ≠ 0 then some (zs.getD i 0) else none

theorem tryI_up (U M zs : List Int) (n : Int) (g : Int) (i j : Nat) (h : i ≤ j) (hi : tryI U M zs n i = some g) : tryI U M zs n j = some g := by
  induction j with
  | zero =>
    have : i = 0 := by omega
    subst this
    exact hi
  | succ j ih =>
    by_cases h' : i = j + 1
    · subst h'; exact hi
    · simp only [tryI]; rw [ih (by omega)]

/-- The refused group and the error. -/
def tryR (U M zs : List Int) (n : Int) : Int × Int := if askE zs n ≠ 0 then (0, askE zs n) else match tryI U M zs n zs.length with
  | some g => (g, 120)
  | none => (0, 0)
def tryU (U M zs : List Int) (n : Int) : List Int := if (tryR U M zs n).2 ≠ 0 then U else chgTo U zs n zs.length

theorem wp_loop_k {P : Program} {Q : Exit → Act → World → Prop} {a : Act} {w : World} {c : Code} (I : Act → World → Prop) (μ : Act → World → Nat) (h₀ : I a w)
    (round : ∀ a w, I a w → ∀ K : Act → World → Prop, Hid (∀ a' w', I a' w' → μ a' w' < μ a w → K a' w') → ∀ L : Exit → Act → World → Prop, L = Q → c.wp P (Exit.then K L) a w) : (Code.loop c).wp P Q a w :=
  wp_loop I μ h₀ (fun a w h => round a w h _ (Lib.hid fun _ _ h1 h2 => ⟨h1, h2⟩) Q rfl)

theorem upU_zero {U M : List Int} {g n : Int} (h : upE U M g n = 0) : upU U M g n = U.set (g - 1).toNat (U.getD (g - 1).toNat 0 + n) := by
  unfold upU; rw [if_neg (by rw [h]; simp)]
theorem upU_no {U M : List Int} {g n : Int} (h : ¬ upE U M g n = 0) : upU U M g n = U := by
  unfold upU; rw [if_pos h]
theorem upE_cases {U M : List Int} {g n : Int} (hg : 1 ≤ g ∧ g ≤ 16) (hn : 0 ≤ n ∧ n ≤ 9007199254740991) (h : ¬ upE U M g n = 0) : upE U M g n = 120 := by
  have ha : askE [g] n = 0 := by rw [ask_one, if_neg (by omega), if_neg (by omega)]
  unfold upE at h ⊢
  rw [if_neg (by rw [ha]; simp)] at h ⊢
  split at h
  · next h' => rw [if_pos h']
  · exact absurd rfl h

set_option maxRecDepth 100000 in
set_option maxHeartbeats 3200000 in
theorem try_any (w : World) (b : Nat) (U M : List Int) (h : ChgIs w b U M) (a : Option Addr) (zs : List Int) (cap : Nat) (n : Int) (hz : IntsAt w b a zs) :
    Calls Try.prog 39 #[.pointer (some ⟨b, 0, none⟩), .slice a zs.length cap, .int .i64 n] w fun e w' => e = .returned (.tuple #[.int .i64 (tryR U M zs n).1, .int .i64 (tryR U M zs n).2]) ∧ ChgIs w' b (tryU U M zs n) M ∧ Keeps [b] w w' := by
  refine calls_hide fun R HR => ?_
  have hlen := hz.1
  have hbl := h.hd.lt
  have hk0 : Keeps [] w ((w.alloc (.cells #[.pointer (some ⟨b, 0, none⟩)] 52)).alloc (.cells #[.int .i64 n] 3)) := ((Keeps.refl [] w).alloc _).alloc _
  have hp := ((Row.new w [.pointer (some ⟨b, 0, none⟩)] 52).alloc (.cells #[.int .i64 n] 3))
  have hn : Row ((w.alloc (.cells #[.pointer (some ⟨b, 0, none⟩)] 52)).alloc (.cells #[.int .i64 n] 3)) (w.heap.size + 1) 3 [.int .i64 n] := by
    have := Row.new (w.alloc (.cells #[.pointer (some ⟨b, 0, none⟩)] 52)) [.int .i64 n] 3
    simpa using this
  have H0 := Lib.hid (And.intro (And.intro (h.keeps hk0 (by simp)) (hz.keeps hk0 (by simp))) (And.intro hk0 (And.intro hp hn)))
  clear hk0 hp hn hz h
  have hmf : ∀ (fn : Fn) (first cap : Array Value) (w : World), (Instr.makeFunc fn first cap).run Try.prog w = .ok (.func fn first cap) w := fun _ _ _ _ => rfl
  go_enter_defers Try.func39, Try.ntmps39
  go_wp2_with fail
  generalize (w.alloc (.cells #[.pointer (some ⟨b, 0, none⟩)] 52)).alloc (.cells #[.int .i64 n] 3) = w0 at *
  refine (asked_any w0 b U M H0.out.1.1 a zs cap n H0.out.1.2).mono ?_
  rintro e w1 ⟨rfl, hk1⟩
  have hr1 := hk1.row H0.out.2.2.1 (by simp)
  have hr2 := hk1.row H0.out.2.2.2 (by simp)
  have H1 := Lib.hid (And.intro (And.intro (H0.out.1.1.keeps hk1 (by simp)) (H0.out.1.2.keeps hk1 (by simp))) (And.intro (H0.out.2.1.trans hk1 (by simp)) (And.intro hr1 hr2)))
  have c1 := hr1.cell (i := 0) rfl
  have c2 := hr2.cell (i := 0) rfl
  clear hk1 hr1 hr2
  by_cases he : askE zs n = 0
  · rw [he]
    obtain ⟨hin, hd, hl0, hl8, hn0, hn1⟩ := ask_zero he
    have HIN := Lib.hid hin
    clear hin hd
    go_wp2_with fail
    have hfl : Row (w1.alloc (.cells #[.bool false] 4)) w1.heap.size 4 [.bool false] := Row.new w1 [.bool false] 4
    have hkf := (Keeps.refl [] w1).alloc (.cells #[.bool false] 4)
    have hsz := H1.out.2.1.size
    have hst0 := H1.out.2.2.1.lt
    have hst1 := H1.out.2.2.2.lt
    have hbc := H1.out.1.1.hd.lt
    have H2 := Lib.hid (And.intro (And.intro (H1.out.1.1.keeps hkf (by simp)) (H1.out.1.2.keeps hkf (by simp))) (And.intro (H1.out.2.1.trans hkf (by simp)) (And.intro (And.intro (hkf.row H1.out.2.2.1 (by simp)) (hkf.row H1.out.2.2.2 (by simp))) hfl)))
    obtain ⟨pf, hpf⟩ : ∃ pf, pf = w1.heap.size := ⟨_, rfl⟩
    obtain ⟨pc, hpc⟩ : ∃ pc, pc = w.heap.size := ⟨_, rfl⟩
    rw [← hpf, ← hpc] at H2
    rw [← hpf, ← hpc]
    have hne : pf ≠ b ∧ pc ≠ b ∧ pc + 1 ≠ b ∧ pf ≠ pc ∧ pf ≠ pc + 1 := by omega
    have HNE := Lib.hid (And.intro hne (show w.heap.size ≤ pf ∧ w.heap.size ≤ pc by omega))
    clear hfl hkf hsz hst0 hst1 hbc hne c1 c2 hpf hpc H1 H0
    generalize w1.alloc (.cells #[.bool false] 4) = w2 at *
    refine wp_loop_k (fun a' wr => ∃ (u7 u11 u22 u23 u24 u25 u26 u27 u28 u29 u30 u31 u32 u33 : Value) (j : Nat) (bs : List Nat),
        (j ≤ zs.length ∧ bs.length = j ∧ u7 = .int .i64 0 ∧ tryI U M zs n j = none ∧ (∀ i, i ≤ j → Bd (chgTo U zs n i)) ∧ ChgIs wr b (chgTo U zs n j) M ∧ Caps wr b zs bs ∧ Keeps [b] w2 wr) ∧
        a' = { tmps := #[.pointer (some ⟨b, 0, none⟩), .slice a zs.length cap, .int .i64 n, .pointer (some ⟨pc, 0, none⟩), undef, .pointer (some ⟨pc + 1, 0, none⟩), .int .i64 0, u7, .int .i64 0, .pointer (some ⟨pf, 0, none⟩), undef, u11,
          .pointer (some ⟨b, 0, none⟩), .slice a zs.length cap, .int .i64 n, .int .i64 0, .int .i64 0, .bool false, undef, .slice a zs.length cap, .int .i64 zs.length, .int .i64 j, u22, u23, u24, u25, u26, u27, u28, u29, u30, u31, u32, u33, undef, undef], defers := dfs pf pc (pc + 1) bs })
      (fun a' _ => zs.length - (intOf (a'.tmps.getD 21 undef)).toNat) ?_ ?_
    · exact ⟨_, _, _, _, _, _, _, _, _, _, _, _, _, _, 0, [], ⟨by omega, rfl, rfl, rfl, fun i hi => by obtain rfl : i = 0 := (by omega); exact H2.out.1.1.fu, H2.out.1.1, trivial, Keeps.refl _ _⟩, rfl⟩
    · rintro a' wr ⟨u7, u11, u22, u23, u24, u25, u26, u27, u28, u29, u30, u31, u32, u33, j, bs, ⟨hj, hbs, rfl, htr, hbd, hc, hcap, hkr⟩, rfl⟩ K hK L hL
      have hrc := hkr.row H2.out.2.2.1.1 (by simp; have := HNE.out.1; omega)
      have hrn := hkr.row H2.out.2.2.1.2 (by simp; have := HNE.out.1; omega)
      have hrf := hkr.row H2.out.2.2.2 (by simp; have := HNE.out.1; omega)
      have hzr := H2.out.1.2.keeps hkr (by simp)
      have HI := Lib.hid (And.intro (And.intro hbs (And.intro htr hbd)) (And.intro (And.intro hc hcap) (And.intro hkr (And.intro (And.intro hrc hrn) (And.intro hrf hzr)))))
      have HL := Lib.hid hL
      clear hbs htr hbd hc hcap hkr hL
      by_cases hlt : j < zs.length
      · obtain ⟨bp, off, ha, hbp, hbne, hcell⟩ := hzr.at hlt
        subst ha
        have d0 := hcell j hlt
        have hg := HIN.out j hlt
        have d1 := hrc.cell (i := 0) rfl
        have d2 := hrn.cell (i := 0) rfl
        have l1 := hrc.lt
        have l2 := hrn.lt
        clear hrc hrn hrf hzr hcell
        have hkn := (Keeps.refl [] wr).alloc (.cells #[.int .i64 (zs.getD j 0)] 3)
        have hrg := Row.new wr [.int .i64 (zs.getD j 0)] 3
        have HB := Lib.hid (And.intro hkn (And.intro hrg (HI.out.2.1.1.keeps hkn (by simp))))
        have htj : tryI U M zs n (j + 1) = if upE (chgTo U zs n j) M (zs.getD j 0) n ≠ 0 then some (zs.getD j 0) else none := by simp only [tryI]; rw [HI.out.1.2.1]
        have hcj : chgTo U zs n (j + 1) = (chgTo U zs n j).set (zs.getD j 0 - 1).toNat ((chgTo U zs n j).getD (zs.getD j 0 - 1).toNat 0 + n) := rfl
        have HT := Lib.hid (And.intro htj hcj)
        obtain ⟨z, hzz⟩ : ∃ z, z = zs.getD j 0 := ⟨_, rfl⟩
        have HZ := Lib.hid hzz
        clear hkn hrg htj hcj
        rw [← hzz] at d0 HB HT hg
        clear hzz
        go_wp2_with fail
        refine (up_any _ b _ M HB.out.2.2 z n).mono ?_
        rintro e w3 ⟨rfl, hc3, hk3⟩
        have hbB : wr.heap.size ≠ b := by have := HI.out.2.1.1.hd.lt; omega
        have hrow3 := hk3.row HB.out.2.1 (by simpa using hbB)
        have hkk := (HB.out.1.wider (T := [b]) (by simp)).trans hk3 (by simp)
        have hfl3 := hkk.row HI.out.2.2.2.2.1 (by simp; have := HNE.out.1; omega)
        have hpc3 := hkk.row HI.out.2.2.2.1.1 (by simp; have := HNE.out.1; omega)
        have hpn3 := hkk.row HI.out.2.2.2.1.2 (by simp; have := HNE.out.1; omega)
        have hcap3 := Caps.keeps hkk (by simp) bs HI.out.2.1.2
        by_cases hue : upE (chgTo U zs n j) M z n = 0
        · rw [upU_zero hue, ← HT.out.2] at hc3
          have htn : tryI U M zs n (j + 1) = none := by rw [HT.out.1, if_neg (by rw [hue]; simp)]
          have hcB : w3.cell? ⟨wr.heap.size, 0, none⟩ = some (.int .i64 (zs.getD bs.length 0)) := by rw [HI.out.1.1, ← HZ.out]; exact hrow3.cell (i := 0) rfl
          have hbd : ∀ i, i ≤ j + 1 → Bd (chgTo U zs n i) := fun i hi => by
            by_cases hij : i = j + 1
            · subst hij; exact hc3.fu
            · exact HI.out.1.2.2 i (by omega)
          have hlB := hrow3.lt
          have H3 := Lib.hid (And.intro (And.intro htn hbd) (And.intro hc3 (And.intro (And.intro hcB (And.intro hbB (And.intro hlB hcap3))) (HI.out.2.2.1.trans hkk (by simp)))))
          rw [hue]
          clear htn hcB hbd hlB hbB hc3 hk3 hrow3 hkk hfl3 hpc3 hpn3 hcap3 hue
          go_wp2
          refine hK.out _ _ ⟨_, _, _, _, _, _, _, _, _, _, _, _, _, _, j + 1, wr.heap.size :: bs, ⟨by omega, by simp only [List.length_cons]; rw [HI.out.1.1], rfl, H3.out.1.1, H3.out.1.2, H3.out.2.1, H3.out.2.2.1, H3.out.2.2.2⟩, rfl⟩ (by simp [intOf]; omega)
        · rw [upU_no hue] at hc3
          have h120 := upE_cases hg ⟨hn0, hn1⟩ hue
          have htn : tryI U M zs n (j + 1) = some z := by rw [HT.out.1, if_pos hue]
          have htl := tryI_up U M zs n z (j + 1) zs.length (by omega) htn
          have e1 : tryR U M zs n = (z, 120) := by unfold tryR; rw [if_neg (by rw [he]; simp), htl]
          have e2 : tryU U M zs n = U := by unfold tryU; rw [if_pos (by rw [e1]; simp)]
          rw [e1, e2] at HR
          rw [h120]
          have g0 := hrow3.cell (i := 0) rfl
          have g1 := hfl3.cell (i := 0) rfl
          have fr := hfl3.free 0
          have hset := (hfl3.set 0 (.bool true)).drew
          have hne1 : ¬ pf = wr.heap.size := by have := HI.out.2.2.2.2.1.lt; omega
          have hne2 : ¬ wr.heap.size = pf := fun h => hne1 h.symm
          have hfx := Lib.hid g1
          have H3 := Lib.hid (And.intro hc3 (And.intro (And.intro hpc3 hpn3) (And.intro hcap3 (And.intro hset (HI.out.2.2.1.trans hkk (by simp))))))
          clear hc3 h120 htn htl e1 e2 hue hset hrow3 hkk hpc3 hpn3 hcap3 hfl3
          go_wp2
          go_region
          go_wp2
          rw [HL.out]
          go_wp2
          have hkq : Keeps [pf] w3 (w3.setCell ⟨pf, 0, none⟩ (.bool true)).drew := ((Keeps.refl [pf] w3).set (.inl (by simp)) _).drew
          have hp1 := hkq.row H3.out.2.1.1 (by simp; have := HNE.out.1; omega)
          have hp2 := hkq.row H3.out.2.1.2 (by simp; have := HNE.out.1; omega)
          have hp0 := H3.out.2.2.2.1
          have hkw : Keeps [b] w (w3.setCell ⟨pf, 0, none⟩ (.bool true)).drew := (((H2.out.2.1.wider (by simp)).trans H3.out.2.2.2.2 (by simp)).set (.inr (by show w.heap.size ≤ pf; exact HNE.out.2.1)) _).drew
          refine leaves_undo pf pc (pc + 1) b U M zs n (v := .tuple #[.int .i64 z, .int .i64 120]) (fun w => by simp [results, Try.results39, go_sem]) HIN.out H2.out.1.1.lu HNE.out.1.1 HNE.out.1.2.1 HNE.out.1.2.2.1 bs _ (by rw [HI.out.1.1]; omega) (by rw [HI.out.1.1]; exact HI.out.1.2.2) ?_ (hp0.cell (i := 0) rfl) (hp1.cell (i := 0) rfl) (hp2.cell (i := 0) rfl) hp0.lt hp1.lt hp2.lt (Caps.flag hkq hfx.out bs H3.out.2.2.1) ?_
          · rw [HI.out.1.1]; exact H3.out.1.keeps hkq (by simp; exact fun h => HNE.out.1.1 h.symm)
          · exact fun w' h1 h2 => HR.out _ _ ⟨rfl, h1, hkw.trans h2 (by simp)⟩
      · obtain rfl : j = zs.length := by omega
        have e1 : tryR U M zs n = (0, 0) := by unfold tryR; rw [if_neg (by rw [he]; simp), HI.out.1.2.1]
        have e2 : tryU U M zs n = chgTo U zs n zs.length := by unfold tryU; rw [e1]; rfl
        rw [e1, e2] at HR
        have hf0 := hrf.cell (i := 0) rfl
        clear e1 e2 hlt hj hrc hrn hrf hzr
        go_wp2
        rw [HL.out]
        go_wp2
        exact leaves_not pf pc (pc + 1) wr hf0 (v := .tuple #[.int .i64 0, .int .i64 0]) (by simp [results, Try.results39, go_sem]) (HR.out _ _ ⟨rfl, HI.out.2.1.1, (H2.out.2.1.wider (by simp)).trans HI.out.2.2.1 (by simp)⟩) bs
  · have e1 : tryR U M zs n = (0, askE zs n) := by unfold tryR; rw [if_pos he]
    have e2 : tryU U M zs n = U := by unfold tryU; rw [if_pos (by rw [e1]; exact he)]
    rw [e1, e2] at HR
    have q : (askE zs n != 0) = true := by simp [he]
    clear e1 e2 he
    generalize askE zs n = ee at *
    go_wp2
    refine ⟨.tuple #[.int .i64 0, .int .i64 ee], by simp [results, Try.results39, go_sem], HR.out _ _ ⟨rfl, H1.out.1.1, H1.out.2.1.wider (by simp)⟩⟩

set_option maxRecDepth 100000 in
set_option maxHeartbeats 400000 in
theorem try_none (w : World) (v : Value) (h : NoChg w v) (p : Value) (n : Int) :
    Calls Try.prog 39 #[v, p, .int .i64 n] w fun e w' => e = .returned (.tuple #[.int .i64 0, .int .i64 1]) ∧ Keeps [] w w' := by
  refine calls_hide fun R HR => ?_
  have hk0 : Keeps [] w ((w.alloc (.cells #[v] 52)).alloc (.cells #[.int .i64 n] 3)) := ((Keeps.refl [] w).alloc _).alloc _
  have H0 := Lib.hid (And.intro (h.keeps hk0 (by simp)) hk0)
  clear hk0
  rcases h with rfl | ⟨b, rfl, _, _⟩
  · go_enter_defers Try.func39, Try.ntmps39
    go_wp2_with (go_at_call 87; refine (asked_none _ _ H0.out.1 _ n).mono ?_; rintro e w' ⟨rfl, rfl⟩)
    refine ⟨.tuple #[.int .i64 0, .int .i64 1], by simp [results, Try.results39, go_sem], HR.out _ _ ⟨rfl, H0.out.2⟩⟩
  · go_enter_defers Try.func39, Try.ntmps39
    go_wp2_with (go_at_call 87; refine (asked_none _ _ H0.out.1 _ n).mono ?_; rintro e w' ⟨rfl, rfl⟩)
    refine ⟨.tuple #[.int .i64 0, .int .i64 1], by simp [results, Try.results39, go_sem], HR.out _ _ ⟨rfl, H0.out.2⟩⟩

end Go.Proofs.Ytlndpljhcempoaa
