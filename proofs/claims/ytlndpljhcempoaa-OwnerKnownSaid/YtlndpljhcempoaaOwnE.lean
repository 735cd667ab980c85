/- The package owner: Count, Empty, Move: ranges over the map, in whatever order. Condition: the owner's blocks read as a grid of groups; or there is no owner. -/
import Derived.Test.YtlndpljhcempoaaOwnD
namespace Go.Proofs.Ytlndpljhcempoaa
open Go.RowKit

/-! ### Plain -/

/-- Of what has come: how many are group g's. -/
def cG (S O : Nat) (f : Int → Int → Int) (sn : Int → Int → Bool) (g : Int) : Nat := cntF (fun a b => sn a b && f a b == g) O S

theorem cG_start (S O : Nat) (f : Int → Int → Int) (g : Int) : cG S O f (fun _ _ => false) g = 0 := cntF_none _ _ _ fun _ _ _ _ => by simp

theorem cG_le (S O : Nat) (f : Int → Int → Int) (sn : Int → Int → Bool) (g : Int) : cG S O f sn g ≤ S * O := cntF_le _ _ _

theorem cG_hit {S O : Nat} {f : Int → Int → Int} {sn : Int → Int → Bool} {s i : Int} (hf : Fine S O f) (hn : f s i ≠ 0) (hs : sn s i = false) : cG S O f (upd sn s i true) (f s i) = cG S O f sn (f s i) + 1 := by
  have hb := hf.inn s i hn
  obtain ⟨s', rfl⟩ := Int.eq_ofNat_of_zero_le (a := s) (by omega)
  obtain ⟨i', rfl⟩ := Int.eq_ofNat_of_zero_le (a := i) (by omega)
  unfold cG
  rw [← cntF_upd (p := fun a b => sn a b && f a b == f s' i') (O := O) (s := s') (i := i') (by omega) (by simp [hs]) S (by omega)]
  refine cntF_congr fun a b _ _ => ?_
  by_cases e : (a : Int) = s' ∧ (b : Int) = i'
  · obtain ⟨e1, e2⟩ := e
    rw [e1, e2, upd_same, upd_same]
    simp
  · rw [upd_ne _ _ _ _ e, upd_ne _ _ _ _ e]

theorem cG_miss {S O : Nat} {f : Int → Int → Int} {sn : Int → Int → Bool} {s i g : Int} (hg : f s i ≠ g) : cG S O f (upd sn s i true) g = cG S O f sn g := by
  unfold cG
  refine cntF_congr fun a b _ _ => ?_
  by_cases e : (a : Int) = s ∧ (b : Int) = i
  · obtain ⟨e1, e2⟩ := e
    have hgb : (f s i == g) = false := beq_eq_false_iff_ne.2 hg
    rw [e1, e2, hgb, Bool.and_false, Bool.and_false]
  · rw [upd_ne _ _ _ _ e]

/-- Count's answer. -/
def cntO (S O : Nat) (f : Int → Int → Int) (g : Int) : Int := if g = 0 then 0 else ofG S O f g

theorem cG_end {S O : Nat} {f : Int → Int → Int} {sn : Int → Int → Bool} (h1 : ∀ a b, sn a b = true → f a b ≠ 0) (h2 : ∀ a b, f a b ≠ 0 → sn a b = true) (g : Int) : ((cG S O f sn g : Nat) : Int) = cntO S O f g := by
  unfold cntO
  split
  · next h0 =>
    subst h0
    rw [cG, cntF_none]; rfl
    intro a b _ _
    cases hs : sn a b
    · rfl
    · simpa using h1 a b hs
  · next h0 =>
    unfold ofG cG
    congr 1
    refine cntF_congr fun a b _ _ => ?_
    by_cases e : f a b = g
    · rw [h2 a b (by omega)]; simp
    · simp [e]

/-- Move under way. -/
def mvF (f : Int → Int → Int) (sn : Int → Int → Bool) (x y : Int) : Int → Int → Int := fun a b => if sn a b = true ∧ f a b = x then y else f a b

theorem mvF_start (f : Int → Int → Int) (x y : Int) : mvF f (fun _ _ => false) x y = f := by
  funext a b
  simp [mvF]

theorem mvF_new {f : Int → Int → Int} {sn : Int → Int → Bool} {x y s i : Int} (h : sn s i = false) : mvF f sn x y s i = f s i := by simp [mvF, h]

theorem mvF_zero {f : Int → Int → Int} {sn : Int → Int → Bool} {x y a b : Int} (hx : x ≠ 0) (hy : y ≠ 0) : mvF f sn x y a b ≠ 0 ↔ f a b ≠ 0 := by
  unfold mvF
  split
  · next h => rw [h.2]; simp [hx, hy]
  · exact Iff.rfl

theorem mvF_hit {f : Int → Int → Int} {sn : Int → Int → Bool} {x y s i : Int} (h : f s i = x) : mvF f (upd sn s i true) x y = upd (mvF f sn x y) s i y := by
  funext a b
  by_cases e : a = s ∧ b = i
  · obtain ⟨rfl, rfl⟩ := e
    rw [upd_same, mvF, upd_same, if_pos ⟨rfl, h⟩]
  · rw [upd_ne _ _ _ _ e, mvF, upd_ne _ _ _ _ e]
    rfl

theorem mvF_miss {f : Int → Int → Int} {sn : Int → Int → Bool} {x y s i : Int} (h : f s i ≠ x) : mvF f (upd sn s i true) x y = mvF f sn x y := by
  funext a b
  by_cases e : a = s ∧ b = i
  · obtain ⟨rfl, rfl⟩ := e
    simp [mvF, h]
  · rw [mvF, upd_ne _ _ _ _ e]
    rfl

theorem mvF_end {f : Int → Int → Int} {sn : Int → Int → Bool} {x y : Int} (hx : x ≠ 0) (hy : y ≠ 0) (h : ∀ a b, mvF f sn x y a b ≠ 0 → sn a b = true) : mvF f sn x y = moveF f x y := by
  funext a b
  unfold mvF moveF
  by_cases e : f a b = x
  · rw [if_pos ⟨h a b ((mvF_zero hx hy).2 (by omega)), e⟩, if_pos e]
  · rw [if_neg (fun hh => e hh.2), if_neg e]

theorem cG_all {S O : Nat} {f : Int → Int → Int} {sn : Int → Int → Bool} {x y : Int} (hx : x ≠ 0) (hy : y ≠ 0) (h : ∀ a b, mvF f sn x y a b ≠ 0 → sn a b = true) : cG S O f sn x = ofG S O f x := by
  unfold cG ofG
  refine cntF_congr fun a b _ _ => ?_
  by_cases e : f a b = x
  · rw [h a b ((mvF_zero hx hy).2 (by omega))]; simp
  · simp [e]

/-! ### Count -/

set_option maxRecDepth 100000 in
set_option maxHeartbeats 800000 in
theorem ocount_none (w : World) (v : Value) (h : NoOwn w v) (g : Int) :
    Calls Try.prog 70 #[v, .int .i64 g] w fun e w' => e = .returned (.int .i64 0) ∧ w = w' := by
  refine calls_hide fun R HR => ?_
  have H := Lib.hid h
  clear h
  go_enter Try.func70, Try.ntmps70
  go_wp2_with fail
  refine (onone_none w v H.out).mono ?_
  rintro e w1 ⟨rfl, rfl⟩
  go_wp2
  try go_ret
  exact HR.out _ _ ⟨rfl, rfl⟩

set_option maxRecDepth 100000 in
set_option maxHeartbeats 3200000 in
theorem ocount_any (w : World) (b m S O : Nat) (f : Int → Int → Int) (h : OwnIs w b m S O f) (g : Int) :
    Calls Try.prog 70 #[.pointer (some ⟨b, 0, none⟩), .int .i64 g] w fun e w' => e = .returned (.int .i64 (cntO S O f g)) ∧ Keeps [] w w' := by
  refine calls_hide fun R HR => ?_
  have c2 := h.hd.cell (i := 2) rfl
  have hlm := h.om.lt
  have H := Lib.hid h
  have hS := h.fine.s2
  have hO := h.fine.o2
  have HSO : Hid (S * O ≤ 4096) := Lib.hid (Nat.le_trans (Nat.mul_le_mul hS hO) (by omega))
  clear h hS hO
  go_enter Try.func70, Try.ntmps70
  go_wp2_with fail
  refine (onone_ok w b m S O f H.out).mono ?_
  rintro e w1 ⟨rfl, rfl⟩
  go_wp2_with (at_range; refine wpList_range_om rfl _ rfl Try.pairMap rfl H.out.om ?_; intro w0 c0 hr0 hk0 hs0; have H0 := Lib.hid (And.intro hr0 hk0); clear hr0 hk0 hs0)
  go_frame
  go_loopw [4] (fun n wr => ∃ (sn : Int → Int → Bool) (c : Nat), n = .int .i64 (cG S O f sn g : Nat) ∧ Rgd wr m w.heap.size f sn c ∧ (∀ a b, sn a b = true → f a b ≠ 0) ∧ Keeps [] w wr) (fun _ wr => wr.rangeLeft m w.heap.size)
  case atStart => exact ⟨_, c0, by rw [cG_start]; rfl, H0.out.1, fun _ _ h => by simp at h, H0.out.2⟩
  case round =>
    obtain ⟨sn, c, rfl, hrg, hsn, hkr⟩ := hrel
    have HI := Lib.hid (And.intro hrg (And.intro hsn hkr))
    clear hrg hsn hkr
    have hle : (cG S O f sn g : Int) ≤ 4096 := by have := cG_le S O f sn g; have := HSO.out; omega
    have hge : (0 : Int) ≤ (cG S O f sn g : Int) := by omega
    go_wp2_with (at_next; refine wpList_next_om rfl _ rfl rfl HI.out.1 ?_ ?_)
    · intro hdone
      have HD := Lib.hid hdone
      clear hdone
      rw [cG_end HI.out.2.1 HD.out]
      go_wp2
      try go_ret
      exact HR.out _ _ ⟨rfl, HI.out.2.2⟩
    · intro s i w' c' hn hs hrg' hlt hk hsz hen
      have HM := Lib.hid (And.intro (And.intro hn hs) (And.intro hrg' (And.intro hlt hk)))
      have hsn' : ∀ a b, upd sn s i true a b = true → f a b ≠ 0 := fun a b hab => by
        by_cases e : a = s ∧ b = i
        · obtain ⟨rfl, rfl⟩ := e; exact hn
        · rw [upd_ne _ _ _ _ e] at hab; exact HI.out.2.1 a b hab
      have HS := Lib.hid hsn'
      clear hn hs hrg' hlt hk hsz hsn'
      by_cases hg : f s i = g
      · have HG := Lib.hid hg
        have hgb : (f s i == g) = true := beq_iff_eq.2 hg
        clear hg
        go_wp2
        go_roundw
        case rel => exact ⟨_, c', by rw [← HG.out, cG_hit H.out.fine HM.out.1.1 HM.out.1.2, HG.out]; go_num, HM.out.2.1, HS.out, HI.out.2.2.trans HM.out.2.2.2 (by simp)⟩
        case measure => rw [HM.out.2.1.left_eq, HI.out.1.left_eq]; exact HM.out.2.2.1
      · have HG := Lib.hid hg
        have hgb : (f s i == g) = false := beq_eq_false_iff_ne.2 hg
        clear hg
        go_wp2
        go_roundw
        case rel => exact ⟨_, c', by rw [cG_miss HG.out], HM.out.2.1, HS.out, HI.out.2.2.trans HM.out.2.2.2 (by simp)⟩
        case measure => rw [HM.out.2.1.left_eq, HI.out.1.left_eq]; exact HM.out.2.2.1

/-! ### Empty -/

theorem emptyF_out {S O : Nat} {f : Int → Int → Int} {s : Int} (h : ¬(0 ≤ s ∧ s < S)) : emptyF S O f s = false := by simp only [emptyF, decide_eq_false h, Bool.false_and]

theorem emptyF_no {S O : Nat} {f : Int → Int → Int} (hf : Fine S O f) {s i : Int} (hn : f s i ≠ 0) : emptyF S O f s = false := by
  have := hf.inn s i hn
  obtain ⟨i', rfl⟩ := Int.eq_ofNat_of_zero_le (a := i) (by omega)
  rw [emptyF, anyIn_true ⟨i', by omega, hn⟩]
  simp

theorem emptyF_yes {S O : Nat} {f : Int → Int → Int} {s : Int} (h1 : 0 ≤ s) (h2 : s < S) (h : ∀ b, f s b = 0) : emptyF S O f s = true := by
  rw [emptyF, anyIn_false fun j _ => h j, decide_eq_true ⟨h1, h2⟩]; rfl

set_option maxRecDepth 100000 in
set_option maxHeartbeats 800000 in
theorem oempty_none (w : World) (v : Value) (h : NoOwn w v) (s : Int) :
    Calls Try.prog 69 #[v, .int .i64 s] w fun e w' => e = .returned (.bool false) ∧ Keeps [] w w' := by
  refine calls_hide fun R HR => ?_
  have H := Lib.hid h
  clear h
  go_enter Try.func69, Try.ntmps69
  go_wp2_with fail
  refine (oasked_none w v H.out s 0).mono ?_
  rintro e w1 ⟨rfl, hk⟩
  have H2 := Lib.hid hk
  clear hk
  go_wp2
  try go_ret
  exact HR.out _ _ ⟨rfl, H2.out⟩

set_option maxRecDepth 100000 in
set_option maxHeartbeats 3200000 in
theorem oempty_any (w : World) (b m S O : Nat) (f : Int → Int → Int) (h : OwnIs w b m S O f) (s : Int) :
    Calls Try.prog 69 #[.pointer (some ⟨b, 0, none⟩), .int .i64 s] w fun e w' => e = .returned (.bool (emptyF S O f s)) ∧ Keeps [] w w' := by
  refine calls_hide fun R HR => ?_
  have H := Lib.hid h
  have hO := h.fine.o1
  clear h
  by_cases hin : 0 ≤ s ∧ s < S
  · have hA : askO S O s 0 = 0 := by rw [askO, inB_true ⟨by omega, by omega, by omega, by omega⟩]; rfl
    have HIN := Lib.hid hin
    clear hin hO
    go_enter Try.func69, Try.ntmps69
    go_wp2_with fail
    refine (oasked_any w b m S O f H.out s 0).mono ?_
    rintro e w1 ⟨rfl, hk⟩
    rw [hA]
    clear hA
    have hO1 := H.out.keeps hk (by simp) (by simp)
    have c2 := hO1.hd.cell (i := 2) rfl
    have H1 := Lib.hid (And.intro hO1 hk)
    clear hO1 hk
    go_wp2_with (at_range; refine wpList_range_om rfl _ rfl Try.pairMap rfl H1.out.1.om ?_; intro w0 c0 hr0 hk0 hs0; have H0 := Lib.hid (And.intro hr0 (H1.out.2.trans hk0 (by simp))); clear hr0 hk0 hs0)
    go_frame
    have hw1 : w.heap.size ≤ w1.heap.size := H1.out.2.size
    have hmm : m < w1.heap.size := H1.out.1.om.lt
    go_loopw [] (fun wr => ∃ (sn : Int → Int → Bool) (c : Nat), Rgd wr m w1.heap.size f sn c ∧ (∀ a b, sn a b = true → a ≠ s) ∧ Keeps [] w wr) (fun wr => wr.rangeLeft m w1.heap.size)
    case atStart => exact ⟨_, c0, H0.out.1, fun _ _ h => by simp at h, H0.out.2⟩
    case round =>
      obtain ⟨sn, c, hrg, hsn, hkr⟩ := hrel
      have HI := Lib.hid (And.intro hrg (And.intro hsn hkr))
      clear hrg hsn hkr
      go_wp2_with (at_next; refine wpList_next_om rfl _ rfl rfl HI.out.1 ?_ ?_)
      · intro hdone
        have he : emptyF S O f s = true := emptyF_yes HIN.out.1 HIN.out.2 fun b => Classical.byContradiction fun hn => HI.out.2.1 s b (hdone s b hn) rfl
        rw [he] at HR
        clear hdone he
        go_wp2
        try go_ret
        exact HR.out _ _ ⟨rfl, HI.out.2.2⟩
      · intro s' i' w' c' hn hs hrg' hlt hk hsz hen
        have HM := Lib.hid (And.intro (And.intro hn hs) (And.intro hrg' (And.intro hlt (HI.out.2.2.trans hk (by simp; omega)))))
        clear hn hs hrg' hlt hk hsz
        by_cases hg : s' = s
        · subst hg
          have he := emptyF_no H.out.fine HM.out.1.1
          rw [he] at HR
          clear he
          go_wp2
          try go_ret
          exact HR.out _ _ ⟨rfl, HM.out.2.2.2.alloc _⟩
        · have HG := Lib.hid hg
          have hgb : (s' == s) = false := beq_eq_false_iff_ne.2 hg
          clear hg
          go_wp2
          go_roundw
          case rel => exact ⟨_, c', HM.out.2.1.keeps ((Keeps.refl [] _).alloc _) (by simp) (by simp), fun a b hab => by
            by_cases e : a = s' ∧ b = i'
            · rw [e.1]; exact HG.out
            · rw [upd_ne _ _ _ _ e] at hab; exact HI.out.2.1 a b hab, HM.out.2.2.2.alloc _⟩
          case measure => rw [(HM.out.2.1.keeps ((Keeps.refl [] _).alloc _) (by simp) (by simp)).left_eq, HI.out.1.left_eq]; exact HM.out.2.2.1
  · have hA : askO S O s 0 = 9 := by rw [askO, inB_false (by omega)]; rfl
    rw [emptyF_out hin] at HR
    clear hin hO
    go_enter Try.func69, Try.ntmps69
    go_wp2_with fail
    refine (oasked_any w b m S O f H.out s 0).mono ?_
    rintro e w1 ⟨rfl, hk⟩
    rw [hA]
    clear hA
    have H1 := Lib.hid hk
    clear hk
    go_wp2
    try go_ret
    exact HR.out _ _ ⟨rfl, H1.out⟩

/-! ### Move -/

/-- Move's answers, and what it leaves. -/
def mvE (x y : Int) : Int := if grp x = false ∨ grp y = false then 110 else 0
def mvN (S O : Nat) (f : Int → Int → Int) (x y : Int) : Int := if grp x = false ∨ grp y = false ∨ x = y then 0 else ofG S O f x
def mvS (f : Int → Int → Int) (x y : Int) : Int → Int → Int := if grp x = false ∨ grp y = false ∨ x = y then f else moveF f x y

theorem Fine.mv {S O : Nat} {f : Int → Int → Int} (h : Fine S O f) (x y : Int) : Fine S O (mvS f x y) := by
  unfold mvS
  split
  · exact h
  · next hn =>
    have h1 : grp x = true := by cases e : grp x <;> simp [e] at hn ⊢
    have h2 : grp y = true := by cases e : grp y <;> simp [e] at hn ⊢
    have := grp_of h1
    have := grp_of h2
    exact h.move (by omega) (by omega) (by omega)

set_option maxRecDepth 100000 in
set_option maxHeartbeats 800000 in
theorem omove_none (w : World) (v : Value) (h : NoOwn w v) (x y : Int) :
    Calls Try.prog 64 #[v, .int .i64 x, .int .i64 y] w fun e w' => e = .returned (.tuple #[.int .i64 0, .int .i64 1]) ∧ w = w' := by
  refine calls_hide fun R HR => ?_
  have H := Lib.hid h
  clear h
  go_enter Try.func64, Try.ntmps64
  go_wp2_with fail
  refine (onone_none w v H.out).mono ?_
  rintro e w1 ⟨rfl, rfl⟩
  go_wp2
  try go_ret2
  exact HR.out _ _ ⟨rfl, rfl⟩

set_option maxRecDepth 100000 in
set_option maxHeartbeats 3200000 in
theorem omove_any (w : World) (b m S O : Nat) (f : Int → Int → Int) (h : OwnIs w b m S O f) (x y : Int) :
    Calls Try.prog 64 #[.pointer (some ⟨b, 0, none⟩), .int .i64 x, .int .i64 y] w fun e w' => e = .returned (.tuple #[.int .i64 (mvN S O f x y), .int .i64 (mvE x y)]) ∧ OwnIs w' b m S O (mvS f x y) ∧ Keeps [m] w w' := by
  refine calls_hide fun R HR => ?_
  have c2 := h.hd.cell (i := 2) rfl
  have hlm := h.om.lt
  have hlb := h.hd.lt
  have hbm := h.ne
  have H := Lib.hid h
  have hS := h.fine.s2
  have hO := h.fine.o2
  have HSO : Hid (S * O ≤ 4096) := Lib.hid (Nat.le_trans (Nat.mul_le_mul hS hO) (by omega))
  clear h hS hO
  cases hx : grp x
  · have he : mvE x y = 110 := by simp [mvE, hx]
    have hn : mvN S O f x y = 0 := by simp [mvN, hx]
    have hs : mvS f x y = f := by simp [mvS, hx]
    rw [he, hn, hs] at HR
    clear he hn hs
    go_enter Try.func64, Try.ntmps64
    go_wp2_with fail
    refine (onone_ok w b m S O f H.out).mono ?_
    rintro e w1 ⟨rfl, rfl⟩
    go_wp2_with fail
    refine (grouped_any w x).mono ?_
    rintro e w1 ⟨rfl, rfl⟩
    rw [hx]
    go_wp2
    try go_ret2
    exact HR.out _ _ ⟨rfl, H.out, Keeps.refl _ _⟩
  · cases hy : grp y
    · have he : mvE x y = 110 := by simp [mvE, hy]
      have hn : mvN S O f x y = 0 := by simp [mvN, hy]
      have hs : mvS f x y = f := by simp [mvS, hy]
      rw [he, hn, hs] at HR
      clear he hn hs
      go_enter Try.func64, Try.ntmps64
      go_wp2_with fail
      refine (onone_ok w b m S O f H.out).mono ?_
      rintro e w1 ⟨rfl, rfl⟩
      go_wp2_with fail
      refine (grouped_any w x).mono ?_
      rintro e w1 ⟨rfl, rfl⟩
      rw [hx]
      go_wp2_with fail
      refine (grouped_any w y).mono ?_
      rintro e w1 ⟨rfl, rfl⟩
      rw [hy]
      go_wp2
      try go_ret2
      exact HR.out _ _ ⟨rfl, H.out, Keeps.refl _ _⟩
    · have he : mvE x y = 0 := by simp [mvE, hx, hy]
      have hwd : ∀ (P : World → Prop), P w → P w := fun _ h => h
      clear hwd
      by_cases hxy : x = y
      · have hn : mvN S O f x y = 0 := by simp [mvN, hxy]
        have hs : mvS f x y = f := by simp [mvS, hxy]
        have hb : (x == y) = true := beq_iff_eq.2 hxy
        rw [he, hn, hs] at HR
        clear he hn hs hxy
        go_enter Try.func64, Try.ntmps64
        go_wp2_with fail
        refine (onone_ok w b m S O f H.out).mono ?_
        rintro e w1 ⟨rfl, rfl⟩
        go_wp2_with fail
        refine (grouped_any w x).mono ?_
        rintro e w1 ⟨rfl, rfl⟩
        rw [hx]
        go_wp2_with fail
        refine (grouped_any w y).mono ?_
        rintro e w1 ⟨rfl, rfl⟩
        rw [hy]
        go_wp2
        try go_ret2
        exact HR.out _ _ ⟨rfl, H.out, Keeps.refl _ _⟩
      · have hn : mvN S O f x y = (ofG S O f x : Nat) := by simp [mvN, hx, hy, hxy]
        have hs : mvS f x y = moveF f x y := by simp [mvS, hx, hy, hxy]
        have hb : (x == y) = false := beq_eq_false_iff_ne.2 hxy
        rw [he, hn, hs] at HR
        have HF := Lib.hid (hs ▸ H.out.fine.mv x y)
        have HX : Hid (x ≠ 0 ∧ y ≠ 0) := Lib.hid (by have := grp_of hx; have := grp_of hy; omega)
        have HFN : Hid (∀ sn, Fine S O (mvF f sn x y)) := Lib.hid fun sn => ⟨fun a b hn0 => by
          have h0 := H.out.fine.inn a b ((mvF_zero HX.out.1 HX.out.2).1 hn0)
          unfold mvF
          split
          · have := grp_of hy; omega
          · exact h0, H.out.fine.s1, H.out.fine.s2, H.out.fine.o1, H.out.fine.o2⟩
        clear he hn hs hxy
        go_enter Try.func64, Try.ntmps64
        go_wp2_with fail
        refine (onone_ok w b m S O f H.out).mono ?_
        rintro e w1 ⟨rfl, rfl⟩
        go_wp2_with fail
        refine (grouped_any w x).mono ?_
        rintro e w1 ⟨rfl, rfl⟩
        rw [hx]
        go_wp2_with fail
        refine (grouped_any w y).mono ?_
        rintro e w1 ⟨rfl, rfl⟩
        rw [hy]
        clear hx hy
        go_wp2_with (at_range; refine wpList_range_om rfl _ rfl Try.pairMap rfl H.out.om ?_; intro w0 c0 hr0 hk0 hs0; have H0 := Lib.hid (And.intro hr0 hk0); clear hr0 hk0 hs0)
        go_frame
        clear c2 hb
        go_loopw [6] (fun n wr => ∃ (sn : Int → Int → Bool) (c : Nat), n = .int .i64 (cG S O f sn x : Nat) ∧ Rgd wr m w.heap.size (mvF f sn x y) sn c ∧ Row wr b 114 [.int .i64 S, .int .i64 O, .map (some m)] ∧ Keeps [m] w wr) (fun _ wr => wr.rangeLeft m w.heap.size)
        case atStart => exact ⟨_, c0, by rw [cG_start]; rfl, by rw [mvF_start]; exact H0.out.1, H0.out.2.row H.out.hd (by simp), H0.out.2.wider (by simp)⟩
        case round =>
          obtain ⟨sn, c, rfl, hrg, hrow, hkr⟩ := hrel
          have HI := Lib.hid (And.intro hrg (And.intro hrow hkr))
          clear hrg hrow hkr
          have hle : (cG S O f sn x : Int) ≤ 4096 := by have := cG_le S O f sn x; have := HSO.out; omega
          have hge : (0 : Int) ≤ (cG S O f sn x : Int) := by omega
          go_wp2_with (at_next; refine wpList_next_om rfl _ rfl rfl HI.out.1 ?_ ?_)
          · intro hdone
            have HD := Lib.hid hdone
            clear hdone
            rw [cG_all HX.out.1 HX.out.2 HD.out]
            go_wp2
            try go_ret2
            exact HR.out _ _ ⟨rfl, ⟨HI.out.2.1, by rw [← mvF_end HX.out.1 HX.out.2 HD.out]; exact HI.out.1.om, HF.out⟩, HI.out.2.2⟩
          · intro s i w' c' hn hs hrg' hlt hk hsz hen
            have hsame : mvF f sn x y s i = f s i := mvF_new hs
            have hf0 : f s i ≠ 0 := (mvF_zero HX.out.1 HX.out.2).1 hn
            have hk2 := HI.out.2.2.trans hk (by simp)
            rw [hsame] at hen ⊢
            have HM := Lib.hid (And.intro (And.intro hn (And.intro hs hf0)) (And.intro hrg' (And.intro hlt hk)))
            clear hn hs hrg' hlt hk hf0 hsame
            by_cases hg : f s i = x
            · have HG := Lib.hid hg
              have hgb : (f s i == x) = true := beq_iff_eq.2 hg
              have HK := Lib.hid hk2
              clear hg hk2
              have HZ := Lib.hid hsz
              go_wp2_with fail
              have hbx := Row.new w' [.int .i64 s, .int .i64 i] 138
              rw [HZ.out] at hbx
              have hrw := (HM.out.2.2.2.row HI.out.2.1 (by simp; omega)).alloc (.cells #[.int .i64 s, .int .i64 i] 138)
              have H4 := Lib.hid (And.intro hrw (And.intro (HM.out.2.1.keeps ((Keeps.refl [] w').alloc (.cells #[.int .i64 s, .int .i64 i] 138)) (by simp) (by simp)) (HK.out.alloc (.cells #[.int .i64 s, .int .i64 i] 138))))
              have x0 := hbx.cell (i := 0) rfl
              have x1 := hbx.cell (i := 1) rfl
              have c2 := hrw.cell (i := 2) rfl
              change (w'.alloc (.cells #[.int .i64 s, .int .i64 i] 138)).cell? _ = _ at x0
              change (w'.alloc (.cells #[.int .i64 s, .int .i64 i] 138)).cell? _ = _ at x1
              clear hen hbx hrw hsz
              generalize w'.alloc (.cells #[.int .i64 s, .int .i64 i] 138) = w2 at *
              obtain ⟨w3, hrun, hrg3, hk3, _⟩ := (H4.out.2.1.keeps (Keeps.refl [] w2).drew (by simp) (by simp)).store Try.pairMap (HFN.out sn).wfs HM.out.1.1 (g := y) HX.out.2
              have H5 := Lib.hid (And.intro hrg3 hk3)
              clear hrg3 hk3
              go_region
              go_wp2
              go_roundw
              case rel => exact ⟨_, c', by rw [← HG.out, cG_hit H.out.fine HM.out.1.2.2 HM.out.1.2.1, HG.out]; go_num, by rw [mvF_hit HG.out]; exact H5.out.1, H5.out.2.row H4.out.1.drew (by simpa using hbm), H4.out.2.2.drew.trans H5.out.2 (by simp)⟩
              case measure => rw [H5.out.1.left_eq, HI.out.1.left_eq]; exact HM.out.2.2.1
            · have HG := Lib.hid hg
              have hgb : (f s i == x) = false := beq_eq_false_iff_ne.2 hg
              have HK := Lib.hid hk2
              clear hg hk2
              go_wp2
              go_roundw
              case rel => exact ⟨_, c', by rw [cG_miss HG.out], by rw [mvF_miss HG.out]; exact HM.out.2.1.keeps ((Keeps.refl [] _).alloc _) (by simp) (by simp), (HM.out.2.2.2.row HI.out.2.1 (by simp; omega)).alloc _, HK.out.alloc _⟩
              case measure => rw [(HM.out.2.1.keeps ((Keeps.refl [] _).alloc _) (by simp) (by simp)).left_eq, HI.out.1.left_eq]; exact HM.out.2.2.1

end Go.Proofs.Ytlndpljhcempoaa
