/- The package owner: New, Set, Clear, Of. Condition: the owner's blocks read as a grid of groups; or there is no owner. -/
import Derived.Test.YtlndpljhcempoaaOwnC
namespace Go.Proofs.Ytlndpljhcempoaa
open Go.RowKit

/-- Set's answer, and what it leaves. -/
def setE (S O : Nat) (f : Int → Int → Int) (s i g : Int) : Int := if inB S O s i = false then 9 else if grp g = false then 110 else if f s i ≠ 0 then 140 else 0
def setF (S O : Nat) (f : Int → Int → Int) (s i g : Int) : Int → Int → Int := if setE S O f s i g = 0 then upd f s i g else f

theorem setF_of {S O : Nat} {f : Int → Int → Int} {s i g : Int} (h : setE S O f s i g ≠ 0) : setF S O f s i g = f := if_neg h

theorem Fine.set {S O : Nat} {f : Int → Int → Int} (h : Fine S O f) (s i g : Int) : Fine S O (setF S O f s i g) := by
  unfold setF
  split
  · next h0 =>
    unfold setE at h0
    split at h0
    · omega
    · next h1 =>
      split at h0
      · omega
      · next h2 =>
        have := inB_of (S := S) (O := O) (s := s) (i := i) (by simpa using h1)
        have := grp_of (g := g) (by simpa using h2)
        exact h.upd (by omega) (by omega) (by omega) (by omega) (by omega) (by omega)
  · exact h

set_option maxRecDepth 100000 in
set_option maxHeartbeats 1600000 in
theorem oset_none (w : World) (v : Value) (h : NoOwn w v) (s i g : Int) :
    Calls Try.prog 60 #[v, .int .i64 s, .int .i64 i, .int .i64 g] w fun e w' => e = .returned (.int .i64 1) ∧ Keeps [] w w' := by
  refine calls_hide fun R HR => ?_
  have hk0 := (Keeps.refl [] w).alloc (.cells #[.int .i64 s, .int .i64 i] 138)
  have H1 := Lib.hid (And.intro (h.keeps hk0 (by simp)) hk0)
  clear h hk0
  go_enter Try.func60, Try.ntmps60
  go_wp2_with fail
  refine (oasked_none _ v H1.out.1 s i).mono ?_
  rintro e w1 ⟨rfl, hk⟩
  have H2 := Lib.hid (H1.out.2.trans hk (by simp))
  clear hk
  go_wp2
  try go_ret
  exact HR.out _ _ ⟨rfl, H2.out⟩

set_option maxRecDepth 100000 in
set_option maxHeartbeats 3200000 in
theorem oset_any (w : World) (b m S O : Nat) (f : Int → Int → Int) (h : OwnIs w b m S O f) (s i g : Int) :
    Calls Try.prog 60 #[.pointer (some ⟨b, 0, none⟩), .int .i64 s, .int .i64 i, .int .i64 g] w fun e w' => e = .returned (.int .i64 (setE S O f s i g)) ∧ OwnIs w' b m S O (setF S O f s i g) ∧ Keeps [m] w w' := by
  refine calls_hide fun R HR => ?_
  have hk0 := (Keeps.refl [] w).alloc (.cells #[.int .i64 s, .int .i64 i] 138)
  have hbox := Row.new w [.int .i64 s, .int .i64 i] 138
  have H1 := Lib.hid (And.intro (h.keeps hk0 (by simp) (by simp)) (And.intro hk0 hbox))
  have hlb := h.hd.lt
  have hlm := h.om.lt
  have hfine := h.fine
  have HF := Lib.hid hfine
  clear hk0 hbox h hfine
  cases h1 : inB S O s i
  · have he : setE S O f s i g = 9 := by rw [setE, if_pos h1]
    rw [setF_of (by omega), he] at HR
    have hA : askO S O s i = 9 := by rw [askO, h1]; rfl
    clear h1 he
    go_enter Try.func60, Try.ntmps60
    go_wp2_with fail
    refine (oasked_any _ b m S O f H1.out.1 s i).mono ?_
    rintro e w1 ⟨rfl, hk⟩
    rw [hA]
    clear hA
    have H2 := Lib.hid (And.intro (H1.out.1.keeps hk (by simp) (by simp)) (H1.out.2.1.trans hk (by simp)))
    clear hk
    go_wp2
    try go_ret
    exact HR.out _ _ ⟨rfl, H2.out.1, H2.out.2.wider (by simp)⟩
  · have hA : askO S O s i = 0 := by rw [askO, h1]; rfl
    have HB := Lib.hid h1
    cases h2 : grp g
    · have he : setE S O f s i g = 110 := by rw [setE, h1, h2]; rfl
      rw [setF_of (by omega), he] at HR
      clear h1 he
      go_enter Try.func60, Try.ntmps60
      go_wp2_with fail
      refine (oasked_any _ b m S O f H1.out.1 s i).mono ?_
      rintro e w1 ⟨rfl, hk⟩
      rw [hA]
      clear hA
      have H2 := Lib.hid (And.intro (H1.out.1.keeps hk (by simp) (by simp)) (H1.out.2.1.trans hk (by simp)))
      clear hk
      go_wp2_with fail
      refine (grouped_any w1 g).mono ?_
      rintro e w2 ⟨rfl, rfl⟩
      rw [h2]
      clear h2
      go_wp2
      try go_ret
      exact HR.out _ _ ⟨rfl, H2.out.1, H2.out.2.wider (by simp)⟩
    · have HG := Lib.hid (grp_of h2)
      have HW : Hid (Wf2 s i) := Lib.hid (by have := inB_of h1; have := HF.out.s2; have := HF.out.o2; exact wf2_of (by omega) (by omega) (by omega) (by omega))
      by_cases h3 : f s i = 0
      · have he : setE S O f s i g = 0 := by rw [setE, h1, h2, h3]; rfl
        have hsf : setF S O f s i g = upd f s i g := if_pos he
        rw [hsf, he] at HR
        have h3' : (f s i != 0) = false := by simp [h3]
        have H3 := Lib.hid h3
        have HFU := Lib.hid (hsf ▸ HF.out.set s i g)
        clear he hsf h1 h3
        go_enter Try.func60, Try.ntmps60
        go_wp2_with fail
        refine (oasked_any _ b m S O f H1.out.1 s i).mono ?_
        rintro e w1 ⟨rfl, hk⟩
        rw [hA]
        clear hA
        have hx := hk.row H1.out.2.2 (by simp)
        have x0 := hx.cell (i := 0) rfl
        have x1 := hx.cell (i := 1) rfl
        have hO := H1.out.1.keeps hk (by simp) (by simp)
        have c2 := hO.hd.cell (i := 2) rfl
        have H2 := Lib.hid (And.intro hO (H1.out.2.1.trans hk (by simp)))
        clear hk hx hO
        go_wp2_with fail
        refine (grouped_any w1 g).mono ?_
        rintro e w2 ⟨rfl, rfl⟩
        rw [h2]
        clear h2
        go_wp2_with fail
        have hlk : ∀ n, (Instr.lookup 112 (.map (some m)) (entK s i) true).run Try.prog (w1.drewN n) = .ok (.tuple #[.int .i64 (f s i), .bool (f s i != 0)]) (w1.drewN n) := fun n =>
          (H2.out.1.om.keeps ((Keeps.refl [] w1).drewN n) (by simp)).look Try.pairMap HF.out.wfs HW.out true
        go_quiet (fail)
        have H4 := Lib.hid (And.intro (H2.out.1.keeps ((Keeps.refl [] w1).drewN nq) (by simp) (by simp)) (H2.out.2.drewN nq))
        obtain ⟨w2, hw2⟩ : ∃ w2, w2 = w1.drewN nq := ⟨_, rfl⟩
        rw [← hw2] at H4 ⊢
        replace x0 : w2.cell? ⟨w.heap.size, 0, none⟩ = some (.int .i64 s) := by rw [hw2]; exact x0
        replace x1 : w2.cell? ⟨w.heap.size, 1, none⟩ = some (.int .i64 i) := by rw [hw2]; exact x1
        replace c2 : w2.cell? ⟨b, 2, none⟩ = some (.map (some m)) := by rw [hw2]; exact c2
        clear hlk hw2 H2 h3'
        obtain ⟨w3, hrun, hom, hk3⟩ := (H4.out.1.om.keeps (Keeps.refl [] w2).drew (by simp)).lay Try.pairMap HF.out.wfs HW.out H3.out (g := g) (by have := HG.out; omega)
        have H5 := Lib.hid (And.intro hom hk3)
        clear hom hk3
        go_wp2_with fail
        go_region
        go_wp2
        try go_ret
        exact HR.out _ _ ⟨rfl, ⟨H5.out.2.row H4.out.1.hd.drew (by simpa using H4.out.1.ne), H5.out.1, HFU.out⟩, (H4.out.2.drew.wider (by simp)).trans H5.out.2 (by simp)⟩
      · have he : setE S O f s i g = 140 := by rw [setE, h1, h2]; simp [h3]
        rw [setF_of (by omega), he] at HR
        have h3' : (f s i != 0) = true := by simp [h3]
        clear he h1 h3
        go_enter Try.func60, Try.ntmps60
        go_wp2_with fail
        refine (oasked_any _ b m S O f H1.out.1 s i).mono ?_
        rintro e w1 ⟨rfl, hk⟩
        rw [hA]
        clear hA
        have hx := hk.row H1.out.2.2 (by simp)
        have x0 := hx.cell (i := 0) rfl
        have x1 := hx.cell (i := 1) rfl
        have hO := H1.out.1.keeps hk (by simp) (by simp)
        have c2 := hO.hd.cell (i := 2) rfl
        have H2 := Lib.hid (And.intro hO (H1.out.2.1.trans hk (by simp)))
        clear hk hx hO
        go_wp2_with fail
        refine (grouped_any w1 g).mono ?_
        rintro e w2 ⟨rfl, rfl⟩
        rw [h2]
        clear h2
        go_wp2_with fail
        have hlk : ∀ n, (Instr.lookup 112 (.map (some m)) (entK s i) true).run Try.prog (w1.drewN n) = .ok (.tuple #[.int .i64 (f s i), .bool (f s i != 0)]) (w1.drewN n) := fun n =>
          (H2.out.1.om.keeps ((Keeps.refl [] w1).drewN n) (by simp)).look Try.pairMap HF.out.wfs HW.out true
        go_quiet (fail)
        go_wp2
        try go_ret
        exact HR.out _ _ ⟨rfl, H2.out.1.keeps ((Keeps.refl [] w1).drewN nq) (by simp) (by simp), (H2.out.2.drewN nq).wider (by simp)⟩

/-! ### Clear -/

def clrE (S O : Nat) (f : Int → Int → Int) (s i : Int) : Int := if inB S O s i = false then 9 else if f s i = 0 then 140 else 0
def clrF (f : Int → Int → Int) (s i : Int) : Int → Int → Int := if f s i = 0 then f else upd f s i 0

theorem clrF_of {f : Int → Int → Int} {s i : Int} (h : f s i = 0) : clrF f s i = f := if_pos h

theorem Fine.clr {S O : Nat} {f : Int → Int → Int} (h : Fine S O f) (s i : Int) : Fine S O (clrF f s i) := by
  unfold clrF
  split
  · exact h
  · next h1 =>
    have := h.inn s i h1
    exact h.upd (by omega) (by omega) (by omega) (by omega) (by omega) (by omega)

set_option maxRecDepth 100000 in
set_option maxHeartbeats 1600000 in
theorem oclear_none (w : World) (v : Value) (h : NoOwn w v) (s i : Int) :
    Calls Try.prog 62 #[v, .int .i64 s, .int .i64 i] w fun e w' => e = .returned (.tuple #[.int .i64 0, .int .i64 1]) ∧ Keeps [] w w' := by
  refine calls_hide fun R HR => ?_
  have hk0 := (Keeps.refl [] w).alloc (.cells #[.int .i64 s, .int .i64 i] 138)
  have H1 := Lib.hid (And.intro (h.keeps hk0 (by simp)) hk0)
  clear h hk0
  go_enter Try.func62, Try.ntmps62
  go_wp2_with fail
  refine (oasked_none _ v H1.out.1 s i).mono ?_
  rintro e w1 ⟨rfl, hk⟩
  have H2 := Lib.hid (H1.out.2.trans hk (by simp))
  clear hk
  go_wp2
  try go_ret2
  exact HR.out _ _ ⟨rfl, H2.out⟩

set_option maxRecDepth 100000 in
set_option maxHeartbeats 3200000 in
theorem oclear_any (w : World) (b m S O : Nat) (f : Int → Int → Int) (h : OwnIs w b m S O f) (s i : Int) :
    Calls Try.prog 62 #[.pointer (some ⟨b, 0, none⟩), .int .i64 s, .int .i64 i] w fun e w' => e = .returned (.tuple #[.int .i64 (f s i), .int .i64 (clrE S O f s i)]) ∧ OwnIs w' b m S O (clrF f s i) ∧ Keeps [m] w w' := by
  refine calls_hide fun R HR => ?_
  have hk0 := (Keeps.refl [] w).alloc (.cells #[.int .i64 s, .int .i64 i] 138)
  have hbox := Row.new w [.int .i64 s, .int .i64 i] 138
  have H1 := Lib.hid (And.intro (h.keeps hk0 (by simp) (by simp)) (And.intro hk0 hbox))
  have hlb := h.hd.lt
  have hlm := h.om.lt
  have hfine := h.fine
  have HF := Lib.hid hfine
  clear hk0 hbox h hfine
  cases h1 : inB S O s i
  · have he : clrE S O f s i = 9 := by rw [clrE, if_pos h1]
    have h0 := HF.out.out h1
    rw [clrF_of h0, he, h0] at HR
    have hA : askO S O s i = 9 := by rw [askO, h1]; rfl
    clear h1 he h0
    go_enter Try.func62, Try.ntmps62
    go_wp2_with fail
    refine (oasked_any _ b m S O f H1.out.1 s i).mono ?_
    rintro e w1 ⟨rfl, hk⟩
    rw [hA]
    clear hA
    have H2 := Lib.hid (And.intro (H1.out.1.keeps hk (by simp) (by simp)) (H1.out.2.1.trans hk (by simp)))
    clear hk
    go_wp2
    try go_ret2
    exact HR.out _ _ ⟨rfl, H2.out.1, H2.out.2.wider (by simp)⟩
  · have hA : askO S O s i = 0 := by rw [askO, h1]; rfl
    have HB := Lib.hid h1
    have HW : Hid (Wf2 s i) := Lib.hid (by have := inB_of h1; have := HF.out.s2; have := HF.out.o2; exact wf2_of (by omega) (by omega) (by omega) (by omega))
    by_cases h3 : f s i = 0
    · have he : clrE S O f s i = 140 := by rw [clrE, h1, h3]; rfl
      rw [clrF_of h3, he, h3] at HR
      have h3' : (f s i != 0) = false := by simp [h3]
      clear he h1 h3
      go_enter Try.func62, Try.ntmps62
      go_wp2_with fail
      refine (oasked_any _ b m S O f H1.out.1 s i).mono ?_
      rintro e w1 ⟨rfl, hk⟩
      rw [hA]
      clear hA
      have hx := hk.row H1.out.2.2 (by simp)
      have x0 := hx.cell (i := 0) rfl
      have x1 := hx.cell (i := 1) rfl
      have hO := H1.out.1.keeps hk (by simp) (by simp)
      have c2 := hO.hd.cell (i := 2) rfl
      have H2 := Lib.hid (And.intro hO (H1.out.2.1.trans hk (by simp)))
      clear hk hx hO
      go_wp2_with fail
      have hlk : ∀ n, (Instr.lookup 112 (.map (some m)) (entK s i) true).run Try.prog (w1.drewN n) = .ok (.tuple #[.int .i64 (f s i), .bool (f s i != 0)]) (w1.drewN n) := fun n =>
        (H2.out.1.om.keeps ((Keeps.refl [] w1).drewN n) (by simp)).look Try.pairMap HF.out.wfs HW.out true
      go_quiet (fail)
      go_wp2
      try go_ret2
      exact HR.out _ _ ⟨rfl, H2.out.1.keeps ((Keeps.refl [] w1).drewN nq) (by simp) (by simp), (H2.out.2.drewN nq).wider (by simp)⟩
    · have he : clrE S O f s i = 0 := by rw [clrE, h1, if_neg h3]; rfl
      have hsf : clrF f s i = upd f s i 0 := if_neg h3
      rw [hsf, he] at HR
      have h3' : (f s i != 0) = true := by simp [h3]
      have H3 := Lib.hid h3
      have HFU := Lib.hid (hsf ▸ HF.out.clr s i)
      clear he hsf h1 h3
      go_enter Try.func62, Try.ntmps62
      go_wp2_with fail
      refine (oasked_any _ b m S O f H1.out.1 s i).mono ?_
      rintro e w1 ⟨rfl, hk⟩
      rw [hA]
      clear hA
      have hx := hk.row H1.out.2.2 (by simp)
      have x0 := hx.cell (i := 0) rfl
      have x1 := hx.cell (i := 1) rfl
      have hO := H1.out.1.keeps hk (by simp) (by simp)
      have c2 := hO.hd.cell (i := 2) rfl
      have H2 := Lib.hid (And.intro hO (H1.out.2.1.trans hk (by simp)))
      clear hk hx hO
      go_wp2_with fail
      have hlk : ∀ n, (Instr.lookup 112 (.map (some m)) (entK s i) true).run Try.prog (w1.drewN n) = .ok (.tuple #[.int .i64 (f s i), .bool (f s i != 0)]) (w1.drewN n) := fun n =>
        (H2.out.1.om.keeps ((Keeps.refl [] w1).drewN n) (by simp)).look Try.pairMap HF.out.wfs HW.out true
      go_quiet (fail)
      have H4 := Lib.hid (And.intro (H2.out.1.keeps ((Keeps.refl [] w1).drewN nq) (by simp) (by simp)) (H2.out.2.drewN nq))
      obtain ⟨w2, hw2⟩ : ∃ w2, w2 = w1.drewN nq := ⟨_, rfl⟩
      rw [← hw2] at H4 ⊢
      replace x0 : w2.cell? ⟨w.heap.size, 0, none⟩ = some (.int .i64 s) := by rw [hw2]; exact x0
      replace x1 : w2.cell? ⟨w.heap.size, 1, none⟩ = some (.int .i64 i) := by rw [hw2]; exact x1
      replace c2 : w2.cell? ⟨b, 2, none⟩ = some (.map (some m)) := by rw [hw2]; exact c2
      clear hlk hw2 H2 h3'
      obtain ⟨w3, hrun, hom, hk3⟩ := (H4.out.1.om.keeps (Keeps.refl [] w2).drew (by simp)).drop Try.pairMap HF.out.wfs HW.out H3.out 0
      have H5 := Lib.hid (And.intro hom hk3)
      clear hom hk3
      go_wp2_with fail
      go_region
      go_wp2
      try go_ret2
      exact HR.out _ _ ⟨rfl, ⟨H5.out.2.row H4.out.1.hd.drew (by simpa using H4.out.1.ne), H5.out.1, HFU.out⟩, (H4.out.2.drew.wider (by simp)).trans H5.out.2 (by simp)⟩

/-! ### Of -/

set_option maxRecDepth 100000 in
set_option maxHeartbeats 800000 in
theorem oof_none (w : World) (v : Value) (h : NoOwn w v) (s i : Int) :
    Calls Try.prog 68 #[v, .int .i64 s, .int .i64 i] w fun e w' => e = .returned (.int .i64 0) ∧ w = w' := by
  refine calls_hide fun R HR => ?_
  have H := Lib.hid h
  clear h
  go_enter Try.func68, Try.ntmps68
  go_wp2_with fail
  refine (onone_none w v H.out).mono ?_
  rintro e w1 ⟨rfl, rfl⟩
  go_wp2
  try go_ret
  exact HR.out _ _ ⟨rfl, rfl⟩

set_option maxRecDepth 100000 in
set_option maxHeartbeats 800000 in
theorem oof_any (w : World) (b m S O : Nat) (f : Int → Int → Int) (h : OwnIs w b m S O f) (s i : Int) (hw : Wf2 s i) :
    Calls Try.prog 68 #[.pointer (some ⟨b, 0, none⟩), .int .i64 s, .int .i64 i] w fun e w' => e = .returned (.int .i64 (f s i)) ∧ w = w' := by
  refine calls_hide fun R HR => ?_
  have hlk := h.om.look Try.pairMap h.fine.wfs hw false
  have c2 := h.hd.cell (i := 2) rfl
  have H := Lib.hid h
  clear h hw
  go_enter Try.func68, Try.ntmps68
  go_wp2_with fail
  refine (onone_ok w b m S O f H.out).mono ?_
  rintro e w1 ⟨rfl, rfl⟩
  go_wp2
  try go_ret
  exact HR.out _ _ ⟨rfl, rfl⟩

/-! ### New -/

/-- Are there such owners? -/
def newOk (S O : Int) : Bool := decide (1 ≤ S ∧ S ≤ 256 ∧ 1 ≤ O ∧ O ≤ 16)

set_option maxRecDepth 100000 in
set_option maxHeartbeats 800000 in
theorem onew_ok (w : World) (S O : Nat) (h1 : 1 ≤ S) (h2 : S ≤ 256) (h3 : 1 ≤ O) (h4 : O ≤ 16) :
    Calls Try.prog 58 #[.int .i64 S, .int .i64 O] w fun e w' => e = .returned (.tuple #[.pointer (some ⟨w.heap.size + 1, 0, none⟩), .int .i64 0]) ∧ OwnIs w' (w.heap.size + 1) w.heap.size S O (fun _ _ => 0) ∧ Keeps [] w w' := by
  refine calls_hide fun R HR => ?_
  have q1 : decide ((S : Int) < 1) = false := decide_eq_false (by omega)
  have q2 : decide (256 < (S : Int)) = false := decide_eq_false (by omega)
  have q3 : decide ((O : Int) < 1) = false := decide_eq_false (by omega)
  have q4 : decide (16 < (O : Int)) = false := decide_eq_false (by omega)
  have hmm := @run_makeMap Try.prog
  go_enter Try.func58, Try.ntmps58
  go_wp2
  try go_ret2
  refine HR.out _ _ ⟨rfl, ⟨?_, (OmIs.new w).keeps ((Keeps.refl [] _).alloc _) (by simp), Fine.none h1 h2 h3 h4⟩, ((Keeps.refl _ _).alloc _).alloc _⟩
  have := Row.new (w.alloc (.map #[] 0)) [.int .i64 S, .int .i64 O, .map (some w.heap.size)] 114
  simpa using this

set_option maxRecDepth 100000 in
set_option maxHeartbeats 800000 in
theorem onew_bad (w : World) (S O : Int) (h : newOk S O = false) :
    Calls Try.prog 58 #[.int .i64 S, .int .i64 O] w fun e w' => e = .returned (.tuple #[.pointer none, .int .i64 2]) ∧ w = w' := by
  have h := of_decide_eq_false h
  by_cases q1 : S < 1
  · go_enter Try.func58, Try.ntmps58
    go_wp2
    try go_ret2
    exact ⟨rfl, rfl⟩
  · by_cases q2 : 256 < S
    · go_enter Try.func58, Try.ntmps58
      go_wp2
      try go_ret2
      exact ⟨rfl, rfl⟩
    · by_cases q3 : O < 1
      · go_enter Try.func58, Try.ntmps58
        go_wp2
        try go_ret2
        exact ⟨rfl, rfl⟩
      · have q4 : 16 < O := by omega
        go_enter Try.func58, Try.ntmps58
        go_wp2
        try go_ret2
        exact ⟨rfl, rfl⟩

end Go.Proofs.Ytlndpljhcempoaa
