/- The package owner: what is asked ahead of each call. Condition: the owner's blocks read as a grid of groups; or there is no owner. -/
import Derived.Test.YtlndpljhcempoaaOwnB
import Derived.RegionTactic
import Derived.BigRegion
import Derived.Deep.QuietTactic
import Derived.BigQuiet
import Derived.Deep.RegionHeld3
namespace Go.Proofs.Ytlndpljhcempoaa
open Go.RowKit

theorem Try.pairMap : PairMap Try.prog 112 138 3 :=
  ⟨Try.underlying112, Try.underlying3, ⟨Try.underlying138, by kernel_rfl, by kernel_rfl, by kernel_rfl⟩, ⟨Try.prog.types.size - 1, by kernel_rfl⟩, fun w => by kernel_rfl⟩

/-- Owners: the struct in block b, the map in block m. -/
structure OwnIs (w : World) (b m S O : Nat) (f : Int → Int → Int) : Prop where
  hd : Row w b 114 [.int .i64 S, .int .i64 O, .map (some m)]
  om : OmIs w m f
  fine : Fine S O f

/-- No owners: nil, or some that were never made. -/
def NoOwn (w : World) (v : Value) : Prop := v = .pointer none ∨ ∃ b, v = .pointer (some ⟨b, 0, none⟩) ∧ Row w b 114 [.int .i64 0, .int .i64 0, .map none]

theorem NoOwn.keeps {w w' : World} {v : Value} {S : List Nat} (h : NoOwn w v) (hk : Keeps S w w') (hS : ∀ x ∈ S, w.heap.size ≤ x) : NoOwn w' v := by
  rcases h with h | ⟨b, h, hr⟩
  · exact .inl h
  · exact .inr ⟨b, h, hk.row hr (fun hb' => by have := hS b hb'; have := hr.lt; omega)⟩

theorem OwnIs.keeps {w w' : World} {b m S O : Nat} {f : Int → Int → Int} {L : List Nat} (h : OwnIs w b m S O f) (hk : Keeps L w w') (hb : b ∉ L) (hm : m ∉ L) : OwnIs w' b m S O f :=
  ⟨hk.row h.hd hb, h.om.keeps hk hm, h.fine⟩

theorem OwnIs.ne {w : World} {b m S O : Nat} {f : Int → Int → Int} (h : OwnIs w b m S O f) : b ≠ m := by
  obtain ⟨es, clock, hb, _⟩ := h.om
  have := h.hd
  unfold Row at this
  rintro rfl
  rw [hb] at this
  cases this

theorem wf2_of {s i : Int} (h1 : -9223372036854775808 ≤ s) (h2 : s ≤ 9223372036854775807) (h3 : -9223372036854775808 ≤ i) (h4 : i ≤ 9223372036854775807) : Wf2 s i := ⟨WalkArith.wf_i64 (by omega), WalkArith.wf_i64 (by omega)⟩

theorem Fine.wfs {S O : Nat} {f : Int → Int → Int} (h : Fine S O f) : Wfs f := fun s i hn => by
  have := h.inn s i hn
  have := h.s2
  have := h.o2
  exact wf2_of (by omega) (by omega) (by omega) (by omega)

/-- Is there the object? -/
def inB (S O : Nat) (s i : Int) : Bool := decide (0 ≤ s ∧ s < S ∧ 0 ≤ i ∧ i < O)
/-- Is it a group? -/
def grp (g : Int) : Bool := decide (1 ≤ g ∧ g ≤ 16)

theorem inB_true {S O : Nat} {s i : Int} (h : 0 ≤ s ∧ s < S ∧ 0 ≤ i ∧ i < O) : inB S O s i = true := decide_eq_true h
theorem inB_false {S O : Nat} {s i : Int} (h : ¬(0 ≤ s ∧ s < S ∧ 0 ≤ i ∧ i < O)) : inB S O s i = false := decide_eq_false h
theorem inB_of {S O : Nat} {s i : Int} (h : inB S O s i = true) : 0 ≤ s ∧ s < S ∧ 0 ≤ i ∧ i < O := of_decide_eq_true h
theorem grp_true {g : Int} (h : 1 ≤ g ∧ g ≤ 16) : grp g = true := decide_eq_true h
theorem grp_false {g : Int} (h : ¬(1 ≤ g ∧ g ≤ 16)) : grp g = false := decide_eq_false h
theorem grp_of {g : Int} (h : grp g = true) : 1 ≤ g ∧ g ≤ 16 := of_decide_eq_true h
theorem grp_not {g : Int} (h : grp g = false) : ¬(1 ≤ g ∧ g ≤ 16) := of_decide_eq_false h

theorem Fine.out {S O : Nat} {f : Int → Int → Int} (h : Fine S O f) {s i : Int} (hb : inB S O s i = false) : f s i = 0 :=
  Classical.byContradiction fun hn => by
    have := h.inn s i hn
    rw [inB_true ⟨by omega, by omega, by omega, by omega⟩] at hb
    cases hb

theorem run_eql_map_nil (w : World) (m : Option Nat) : (binOp .eql 112 (.map m) (.map none)).run Try.prog w = .ok (.bool m.isNone) w := by
  have h : ∀ d : Nat, (Op.equalIn (d + 1) 112 (.map m) (.map none)).run Try.prog w = .ok m.isNone w := fun d => by
    cases m <;> simp [Op.equalIn, run_underlying Try.underlying112]
  simp only [binOp]
  simp [Op.equal, Op.maxDepth, h 9999]

set_option maxRecDepth 100000 in
set_option maxHeartbeats 400000 in
theorem onone_ok (w : World) (b m S O : Nat) (f : Int → Int → Int) (h : OwnIs w b m S O f) :
    Calls Try.prog 100 #[.pointer (some ⟨b, 0, none⟩)] w fun e w' => e = .returned (.bool false) ∧ w = w' := by
  have c0 := h.hd.cell (i := 2) rfl
  have hnil : ∀ W, (binOp .eql 112 (.map (some m)) (.map none)).run Try.prog W = .ok (.bool false) W := fun W => run_eql_map_nil W _
  clear h
  go_enter Try.func100, Try.ntmps100
  go_wp2
  try go_ret
  exact ⟨rfl, rfl⟩

set_option maxRecDepth 100000 in
set_option maxHeartbeats 400000 in
theorem onone_none (w : World) (v : Value) (h : NoOwn w v) :
    Calls Try.prog 100 #[v] w fun e w' => e = .returned (.bool true) ∧ w = w' := by
  rcases h with rfl | ⟨b, rfl, hr⟩
  · go_enter Try.func100, Try.ntmps100
    go_wp2
    try go_ret
    exact ⟨rfl, rfl⟩
  · have c0 := hr.cell (i := 2) rfl
    have hnil : ∀ W, (binOp .eql 112 (.map none) (.map none)).run Try.prog W = .ok (.bool true) W := fun W => run_eql_map_nil W _
    clear hr
    go_enter Try.func100, Try.ntmps100
    go_wp2
    try go_ret
    exact ⟨rfl, rfl⟩

set_option maxRecDepth 100000 in
set_option maxHeartbeats 400000 in
theorem grouped_any (w : World) (g : Int) :
    Calls Try.prog 97 #[.int .i64 g] w fun e w' => e = .returned (.bool (grp g)) ∧ w = w' := by
  refine calls_hide fun R HR => ?_
  by_cases h : 1 ≤ g ∧ g ≤ 16
  · rw [grp_true h] at HR
    obtain ⟨h1, h2⟩ := h
    go_enter Try.func97, Try.ntmps97
    go_wp2
    try go_ret
    exact HR.out _ _ ⟨rfl, rfl⟩
  · rw [grp_false h] at HR
    by_cases h1 : 1 ≤ g
    · have h2 : 16 < g := by omega
      have h3 : decide (g ≤ 16) = false := decide_eq_false (by omega)
      clear h
      go_enter Try.func97, Try.ntmps97
      go_wp2
      try go_ret
      exact HR.out _ _ ⟨rfl, rfl⟩
    · clear h
      go_enter Try.func97, Try.ntmps97
      go_wp2
      try go_ret
      exact HR.out _ _ ⟨rfl, rfl⟩

set_option maxRecDepth 100000 in
set_option maxHeartbeats 400000 in
theorem rgroup_any (w : World) (g : Int) :
    Calls Try.prog 99 #[.int .i64 g] w fun e w' => e = .returned (.bool (grp g)) ∧ w = w' := by
  refine calls_hide fun R HR => ?_
  by_cases h : 1 ≤ g ∧ g ≤ 16
  · rw [grp_true h] at HR
    obtain ⟨h1, h2⟩ := h
    go_enter Try.func99, Try.ntmps99
    go_wp2
    try go_ret
    exact HR.out _ _ ⟨rfl, rfl⟩
  · rw [grp_false h] at HR
    by_cases h1 : 1 ≤ g
    · have h2 : 16 < g := by omega
      have h3 : decide (g ≤ 16) = false := decide_eq_false (by omega)
      clear h
      go_enter Try.func99, Try.ntmps99
      go_wp2
      try go_ret
      exact HR.out _ _ ⟨rfl, rfl⟩
    · clear h
      go_enter Try.func99, Try.ntmps99
      go_wp2
      try go_ret
      exact HR.out _ _ ⟨rfl, rfl⟩

/-! ### asked -/

set_option maxRecDepth 100000 in
set_option maxHeartbeats 800000 in
theorem oasked_none (w : World) (v : Value) (h : NoOwn w v) (s i : Int) :
    Calls Try.prog 96 #[v, .agg #[.int .i64 s, .int .i64 i]] w fun e w' => e = .returned (.int .i64 1) ∧ Keeps [] w w' := by
  refine calls_hide fun R HR => ?_
  have H1 := Lib.hid (h.keeps ((Keeps.refl [] w).alloc (.cells #[.int .i64 s, .int .i64 i] 138)) (by simp))
  clear h
  go_enter Try.func96, Try.ntmps96
  go_wp2_with fail
  refine (onone_none _ _ H1.out).mono ?_
  rintro e w1 ⟨rfl, rfl⟩
  go_wp2
  try go_ret
  exact HR.out _ _ ⟨rfl, (Keeps.refl _ _).alloc _⟩

/-- asked's answer. -/
def askO (S O : Nat) (s i : Int) : Int := if inB S O s i then 0 else 9

set_option maxRecDepth 100000 in
set_option maxHeartbeats 3200000 in
theorem oasked_any (w : World) (b m S O : Nat) (f : Int → Int → Int) (h : OwnIs w b m S O f) (s i : Int) :
    Calls Try.prog 96 #[.pointer (some ⟨b, 0, none⟩), .agg #[.int .i64 s, .int .i64 i]] w fun e w' => e = .returned (.int .i64 (askO S O s i)) ∧ Keeps [] w w' := by
  refine calls_hide fun R HR => ?_
  have hk0 := (Keeps.refl [] w).alloc (.cells #[.int .i64 s, .int .i64 i] 138)
  have hbox := Row.new w [.int .i64 s, .int .i64 i] 138
  have H1 := Lib.hid (h.keeps hk0 (by simp) (by simp))
  have x0 := hbox.cell (i := 0) rfl
  have x1 := hbox.cell (i := 1) rfl
  have c0 := H1.out.hd.cell (i := 0) rfl
  have c1 := H1.out.hd.cell (i := 1) rfl
  have HK := Lib.hid hk0
  clear hk0 hbox h
  by_cases h1 : s < 0
  · rw [askO, inB_false (by omega)] at HR
    go_enter Try.func96, Try.ntmps96
    go_wp2_with fail
    refine (onone_ok _ b m S O f H1.out).mono ?_
    rintro e w1 ⟨rfl, rfl⟩
    go_wp2_with fail
    go_quiet (fail)
    go_wp2
    try go_ret
    exact HR.out _ _ ⟨rfl, HK.out.drewN _⟩
  · have h1' : decide (s < 0) = false := decide_eq_false h1
    by_cases h2 : (S : Int) ≤ s
    · rw [askO, inB_false (by omega)] at HR
      have h2' : decide ((S : Int) ≤ s) = true := decide_eq_true h2
      go_enter Try.func96, Try.ntmps96
      go_wp2_with fail
      refine (onone_ok _ b m S O f H1.out).mono ?_
      rintro e w1 ⟨rfl, rfl⟩
      go_wp2_with fail
      go_quiet (fail)
      go_wp2
      try go_ret
      exact HR.out _ _ ⟨rfl, HK.out.drewN _⟩
    · have h2' : decide ((S : Int) ≤ s) = false := decide_eq_false h2
      by_cases h3 : i < 0
      · rw [askO, inB_false (by omega)] at HR
        go_enter Try.func96, Try.ntmps96
        go_wp2_with fail
        refine (onone_ok _ b m S O f H1.out).mono ?_
        rintro e w1 ⟨rfl, rfl⟩
        go_wp2_with fail
        go_quiet (fail)
        go_wp2
        try go_ret
        exact HR.out _ _ ⟨rfl, HK.out.drewN _⟩
      · have h3' : decide (i < 0) = false := decide_eq_false h3
        by_cases h4 : (O : Int) ≤ i
        · rw [askO, inB_false (by omega)] at HR
          have h4' : decide ((O : Int) ≤ i) = true := decide_eq_true h4
          go_enter Try.func96, Try.ntmps96
          go_wp2_with fail
          refine (onone_ok _ b m S O f H1.out).mono ?_
          rintro e w1 ⟨rfl, rfl⟩
          go_wp2_with fail
          go_quiet (fail)
          go_wp2
          try go_ret
          exact HR.out _ _ ⟨rfl, HK.out.drewN _⟩
        · have h4' : decide ((O : Int) ≤ i) = false := decide_eq_false h4
          rw [askO, inB_true (by omega)] at HR
          go_enter Try.func96, Try.ntmps96
          go_wp2_with fail
          refine (onone_ok _ b m S O f H1.out).mono ?_
          rintro e w1 ⟨rfl, rfl⟩
          go_wp2_with fail
          go_quiet (fail)
          go_wp2
          try go_ret
          exact HR.out _ _ ⟨rfl, HK.out.drewN _⟩

end Go.Proofs.Ytlndpljhcempoaa
