/- The reference's owners (wainscotref14): a row of numbers for each slab. Condition: the blocks read as the grid. -/
import Derived.Test.YtlndpljhcempoaaOwnE
namespace Go.Proofs.Ytlndpljhcempoaa
open Go.RowKit

/-- A row's cells. -/
def gridRow (f : Int → Int → Int) (s : Int) (O : Nat) : List Value := (List.range O).map fun i => .int .i64 (f s (i : Nat))

theorem gridRow_get (f : Int → Int → Int) (s : Int) {O i : Nat} (hi : i < O) : (gridRow f s O)[i]? = some (.int .i64 (f s i)) := by
  simp [gridRow, hi]

theorem gridRow_set (f : Int → Int → Int) (s : Int) {O i : Nat} (v : Int) : (gridRow f s O).set i (.int .i64 v) = gridRow (upd f s i v) s O := by
  refine List.ext_getElem (by simp [gridRow]) fun n h1 h2 => ?_
  rw [List.getElem_set]
  by_cases e : i = n
  · subst e; simp [gridRow, upd]
  · rw [if_neg e]
    simp only [gridRow, List.getElem_map, List.getElem_range]
    rw [upd_ne _ _ _ _ (by omega)]

theorem gridRow_congr {f f' : Int → Int → Int} {s : Int} {O : Nat} (h : ∀ i : Nat, i < O → f s i = f' s i) : gridRow f s O = gridRow f' s O := by
  refine List.ext_getElem (by simp [gridRow]) fun n h1 h2 => ?_
  simp only [gridRow, List.getElem_map, List.getElem_range]
  rw [h n (by simpa [gridRow] using h1)]

/-- The reference's owners: the struct in block r, the table in block g, the rows in the blocks rs. -/
structure GridIs (w : World) (r g : Nat) (rs : List Nat) (S O : Nat) (f : Int → Int → Int) : Prop where
  len : rs.length = S
  hd : ∃ cap, Row w r 137 [.slice (some ⟨g, 0, none⟩) S cap]
  glt : g < w.heap.size
  tab : ∀ (s : Nat) (h : s < rs.length), w.cell? ⟨g, s, none⟩ = some (.slice (some ⟨rs[s], 0, none⟩) O O)
  rows : ∀ (s : Nat) (h : s < rs.length), Row w rs[s] 3 (gridRow f s O)
  nd : rs.Nodup
  rn : r ∉ rs
  gn : g ∉ rs
  rg : r ≠ g
  fine : Fine S O f

theorem GridIs.keeps {w w' : World} {r g : Nat} {rs : List Nat} {S O : Nat} {f : Int → Int → Int} {L : List Nat} (h : GridIs w r g rs S O f) (hk : Keeps L w w') (h1 : r ∉ L) (h2 : g ∉ L) (h3 : ∀ q ∈ rs, q ∉ L) : GridIs w' r g rs S O f := by
  obtain ⟨cap, hd⟩ := h.hd
  exact ⟨h.len, ⟨cap, hk.row hd h1⟩, Nat.lt_of_lt_of_le h.glt hk.size, fun s hs => (hk.cell (p := ⟨g, s, none⟩) h.glt h2).trans (h.tab s hs), fun s hs => hk.row (h.rows s hs) (h3 _ (List.getElem_mem hs)), h.nd, h.rn, h.gn, h.rg, h.fine⟩

theorem GridIs.at {w : World} {r g : Nat} {rs : List Nat} {S O : Nat} {f : Int → Int → Int} (h : GridIs w r g rs S O f) {s : Nat} (hs : s < S) :
    ∃ q, rs[s]? = some q ∧ w.cell? ⟨g, s, none⟩ = some (.slice (some ⟨q, 0, none⟩) O O) ∧ Row w q 3 (gridRow f s O) := by
  have hs' : s < rs.length := by rw [h.len]; exact hs
  exact ⟨rs[s], List.getElem?_eq_getElem hs', h.tab s hs', h.rows s hs'⟩

theorem GridIs.set {w : World} {r g : Nat} {rs : List Nat} {S O : Nat} {f : Int → Int → Int} (h : GridIs w r g rs S O f) {s i : Nat} {q : Nat} (hq : rs[s]? = some q) (hs : s < S) (hi : i < O) {v : Int} (h5 : 0 ≤ v) (h6 : v ≤ 16) :
    GridIs (w.setCell ⟨q, i, none⟩ (.int .i64 v)) r g rs S O (upd f s i v) ∧ Keeps rs w (w.setCell ⟨q, i, none⟩ (.int .i64 v)) := by
  obtain ⟨hs', rfl⟩ := List.getElem?_eq_some_iff.1 hq
  have hk : Keeps [rs[s]] w (w.setCell ⟨rs[s], i, none⟩ (.int .i64 v)) := (Keeps.refl _ _).set (by simp) _
  have hm : rs[s] ∈ rs := List.getElem_mem hs'
  obtain ⟨cap, hd⟩ := h.hd
  refine ⟨⟨h.len, ⟨cap, hk.row hd (by simp only [List.mem_singleton]; rintro rfl; exact h.rn hm)⟩, Nat.lt_of_lt_of_le h.glt hk.size, fun t ht => (hk.cell (p := ⟨g, t, none⟩) h.glt (by simp only [List.mem_singleton]; rintro rfl; exact h.gn hm)).trans (h.tab t ht), fun t ht => ?_, h.nd, h.rn, h.gn, h.rg,
    h.fine.upd (by omega) (by omega) (by omega) (by omega) h5 h6⟩, hk.wider (by simp)⟩
  by_cases e : s = t
  · subst e
    have := (h.rows s ht).set i (.int .i64 v)
    rw [gridRow_set] at this
    exact this
  · have hne : rs[t] ≠ rs[s] := by
      rcases Nat.lt_or_gt_of_ne e with hlt | hgt
      · exact fun e1 => List.pairwise_iff_getElem.1 h.nd s t hs' ht hlt e1.symm
      · exact fun e1 => List.pairwise_iff_getElem.1 h.nd t s ht hs' hgt e1
    have := hk.row (h.rows t ht) (by simpa using hne)
    rw [gridRow_congr (f' := upd f s i v) fun j _ => (upd_ne _ _ _ _ (by omega)).symm] at this
    exact this

/-! ### has -/

set_option maxRecDepth 100000 in
set_option maxHeartbeats 1600000 in
theorem rhas14_any (w : World) (r g : Nat) (rs : List Nat) (S O : Nat) (f : Int → Int → Int) (h : GridIs w r g rs S O f) (s i : Int) :
    Calls Try.prog 98 #[.pointer (some ⟨r, 0, none⟩), .int .i64 s, .int .i64 i] w fun e w' => e = .returned (.bool (inB S O s i)) ∧ w = w' := by
  refine calls_hide fun R HR => ?_
  obtain ⟨cap, hd⟩ := h.hd
  have c0 := hd.cell (i := 0) rfl
  obtain ⟨q, _, c1, _⟩ := h.at (s := 0) (by have := h.fine.s1; omega)
  have hS1 : 0 < S := h.fine.s1
  clear h hd
  by_cases h1 : 0 ≤ s
  · by_cases h2 : s < S
    · by_cases h3 : 0 ≤ i
      · by_cases h4 : i < O
        · rw [inB_true ⟨h1, h2, h3, h4⟩] at HR
          go_enter Try.func98, Try.ntmps98
          go_wp2
          try go_ret
          exact HR.out _ _ ⟨rfl, rfl⟩
        · have h4' : decide (i < (O : Int)) = false := decide_eq_false h4
          rw [inB_false (by omega)] at HR
          go_enter Try.func98, Try.ntmps98
          go_wp2
          try go_ret
          exact HR.out _ _ ⟨rfl, rfl⟩
      · have h3' : decide (0 ≤ i) = false := decide_eq_false h3
        rw [inB_false (by omega)] at HR
        go_enter Try.func98, Try.ntmps98
        go_wp2
        try go_ret
        exact HR.out _ _ ⟨rfl, rfl⟩
    · have h2' : decide (s < (S : Int)) = false := decide_eq_false h2
      rw [inB_false (by omega)] at HR
      go_enter Try.func98, Try.ntmps98
      go_wp2
      try go_ret
      exact HR.out _ _ ⟨rfl, rfl⟩
  · have h1' : decide (0 ≤ s) = false := decide_eq_false h1
    rw [inB_false (by omega)] at HR
    go_enter Try.func98, Try.ntmps98
    go_wp2
    try go_ret
    exact HR.out _ _ ⟨rfl, rfl⟩

/-! ### Of, Set, Clear -/

set_option maxRecDepth 100000 in
set_option maxHeartbeats 1600000 in
theorem rof_any (w : World) (r g : Nat) (rs : List Nat) (S O : Nat) (f : Int → Int → Int) (h : GridIs w r g rs S O f) (s i : Int) :
    Calls Try.prog 102 #[.pointer (some ⟨r, 0, none⟩), .int .i64 s, .int .i64 i] w fun e w' => e = .returned (.int .i64 (f s i)) ∧ w = w' := by
  refine calls_hide fun R HR => ?_
  have H := Lib.hid h
  cases hb : inB S O s i
  · rw [h.fine.out hb] at HR
    clear h
    go_enter Try.func102, Try.ntmps102
    go_wp2_with fail
    refine (rhas14_any w r g rs S O f H.out s i).mono ?_
    rintro e w1 ⟨rfl, rfl⟩
    rw [hb]
    go_wp2
    try go_ret
    exact HR.out _ _ ⟨rfl, rfl⟩
  · obtain ⟨h1, h2, h3, h4⟩ := inB_of hb
    obtain ⟨s, rfl⟩ := Int.eq_ofNat_of_zero_le h1
    obtain ⟨i, rfl⟩ := Int.eq_ofNat_of_zero_le h3
    obtain ⟨cap, hd⟩ := h.hd
    have c0 := hd.cell (i := 0) rfl
    have hs : s < S := by omega
    have hi : i < O := by omega
    obtain ⟨q, _, c1, hr⟩ := h.at hs
    have c2 := hr.cell (gridRow_get f s hi)
    clear h hd hr h1 h2 h3 h4
    go_enter Try.func102, Try.ntmps102
    go_wp2_with fail
    refine (rhas14_any w r g rs S O f H.out s i).mono ?_
    rintro e w1 ⟨rfl, rfl⟩
    rw [hb]
    go_wp2
    try go_ret
    exact HR.out _ _ ⟨rfl, rfl⟩

set_option maxRecDepth 100000 in
set_option maxHeartbeats 3200000 in
theorem rset14_any (w : World) (r g : Nat) (rs : List Nat) (S O : Nat) (f : Int → Int → Int) (h : GridIs w r g rs S O f) (s i x : Int) :
    Calls Try.prog 61 #[.pointer (some ⟨r, 0, none⟩), .int .i64 s, .int .i64 i, .int .i64 x] w fun e w' => e = .returned (.int .i64 (setE S O f s i x)) ∧ GridIs w' r g rs S O (setF S O f s i x) ∧ Keeps rs w w' := by
  refine calls_hide fun R HR => ?_
  have H := Lib.hid h
  cases hb : inB S O s i
  · have he : setE S O f s i x = 9 := by rw [setE, if_pos hb]
    rw [setF_of (by omega), he] at HR
    clear h he
    go_enter Try.func61, Try.ntmps61
    go_wp2_with fail
    refine (rhas14_any w r g rs S O f H.out s i).mono ?_
    rintro e w1 ⟨rfl, rfl⟩
    rw [hb]
    go_wp2
    try go_ret
    exact HR.out _ _ ⟨rfl, H.out, Keeps.refl _ _⟩
  · cases hg : grp x
    · have he : setE S O f s i x = 110 := by rw [setE, hb, hg]; rfl
      rw [setF_of (by omega), he] at HR
      clear h he
      go_enter Try.func61, Try.ntmps61
      go_wp2_with fail
      refine (rhas14_any w r g rs S O f H.out s i).mono ?_
      rintro e w1 ⟨rfl, rfl⟩
      rw [hb]
      go_wp2_with fail
      refine (rgroup_any w x).mono ?_
      rintro e w1 ⟨rfl, rfl⟩
      rw [hg]
      go_wp2
      try go_ret
      exact HR.out _ _ ⟨rfl, H.out, Keeps.refl _ _⟩
    · obtain ⟨h1, h2, h3, h4⟩ := inB_of hb
      obtain ⟨s, rfl⟩ := Int.eq_ofNat_of_zero_le h1
      obtain ⟨i, rfl⟩ := Int.eq_ofNat_of_zero_le h3
      obtain ⟨cap, hd⟩ := h.hd
      have c0 := hd.cell (i := 0) rfl
      have hs : s < S := by omega
      have hi : i < O := by omega
      obtain ⟨q, hq, c1, hr⟩ := h.at hs
      have c2 := hr.cell (gridRow_get f s hi)
      have f2 := hr.free i
      have HQ := Lib.hid hq
      have HG := Lib.hid (grp_of hg)
      by_cases h0 : f s i = 0
      · have he : setE S O f s i x = 0 := by rw [setE, hb, hg, h0]; rfl
        have hsf : setF S O f s i x = upd f s i x := if_pos he
        rw [hsf, he] at HR
        rw [h0] at c2
        clear h hd hr h1 h2 h3 h4 h0 he hsf hq
        go_enter Try.func61, Try.ntmps61
        go_wp2_with fail
        refine (rhas14_any w r g rs S O f H.out s i).mono ?_
        rintro e w1 ⟨rfl, rfl⟩
        rw [hb]
        go_wp2_with fail
        refine (rgroup_any w x).mono ?_
        rintro e w1 ⟨rfl, rfl⟩
        rw [hg]
        go_wp2
        try go_ret
        exact HR.out _ _ ⟨rfl, H.out.set HQ.out hs hi (by have := HG.out; omega) HG.out.2⟩
      · have he : setE S O f s i x = 140 := by rw [setE, hb, hg]; simp [h0]
        rw [setF_of (by omega), he] at HR
        have h0' : (f s i != 0) = true := by simp [h0]
        clear h hd hr h1 h2 h3 h4 h0 he hq
        go_enter Try.func61, Try.ntmps61
        go_wp2_with fail
        refine (rhas14_any w r g rs S O f H.out s i).mono ?_
        rintro e w1 ⟨rfl, rfl⟩
        rw [hb]
        go_wp2_with fail
        refine (rgroup_any w x).mono ?_
        rintro e w1 ⟨rfl, rfl⟩
        rw [hg]
        go_wp2
        try go_ret
        exact HR.out _ _ ⟨rfl, H.out, Keeps.refl _ _⟩

set_option maxRecDepth 100000 in
set_option maxHeartbeats 3200000 in
theorem rclear14_any (w : World) (r g : Nat) (rs : List Nat) (S O : Nat) (f : Int → Int → Int) (h : GridIs w r g rs S O f) (s i : Int) :
    Calls Try.prog 63 #[.pointer (some ⟨r, 0, none⟩), .int .i64 s, .int .i64 i] w fun e w' => e = .returned (.tuple #[.int .i64 (f s i), .int .i64 (clrE S O f s i)]) ∧ GridIs w' r g rs S O (clrF f s i) ∧ Keeps rs w w' := by
  refine calls_hide fun R HR => ?_
  have H := Lib.hid h
  cases hb : inB S O s i
  · have he : clrE S O f s i = 9 := by rw [clrE, if_pos hb]
    have h0 := h.fine.out hb
    rw [clrF_of h0, he, h0] at HR
    clear h he h0
    go_enter Try.func63, Try.ntmps63
    go_wp2_with fail
    refine (rhas14_any w r g rs S O f H.out s i).mono ?_
    rintro e w1 ⟨rfl, rfl⟩
    rw [hb]
    go_wp2
    try go_ret2
    exact HR.out _ _ ⟨rfl, H.out, Keeps.refl _ _⟩
  · obtain ⟨h1, h2, h3, h4⟩ := inB_of hb
    obtain ⟨s, rfl⟩ := Int.eq_ofNat_of_zero_le h1
    obtain ⟨i, rfl⟩ := Int.eq_ofNat_of_zero_le h3
    obtain ⟨cap, hd⟩ := h.hd
    have c0 := hd.cell (i := 0) rfl
    have hs : s < S := by omega
    have hi : i < O := by omega
    obtain ⟨q, hq, c1, hr⟩ := h.at hs
    have c2 := hr.cell (gridRow_get f s hi)
    have f2 := hr.free i
    have HQ := Lib.hid hq
    by_cases h0 : f s i = 0
    · have he : clrE S O f s i = 140 := by rw [clrE, hb, h0]; rfl
      rw [clrF_of h0, he, h0] at HR
      rw [h0] at c2
      clear h hd hr h1 h2 h3 h4 h0 he hq
      go_enter Try.func63, Try.ntmps63
      go_wp2_with fail
      refine (rhas14_any w r g rs S O f H.out s i).mono ?_
      rintro e w1 ⟨rfl, rfl⟩
      rw [hb]
      go_wp2
      try go_ret2
      exact HR.out _ _ ⟨rfl, H.out, Keeps.refl _ _⟩
    · have he : clrE S O f s i = 0 := by rw [clrE, hb, if_neg h0]; rfl
      have hsf : clrF f s i = upd f s i 0 := if_neg h0
      rw [hsf, he] at HR
      have h0' : (f s i == 0) = false := by simp [h0]
      clear h hd hr h1 h2 h3 h4 h0 he hsf hq
      go_enter Try.func63, Try.ntmps63
      go_wp2_with fail
      refine (rhas14_any w r g rs S O f H.out s i).mono ?_
      rintro e w1 ⟨rfl, rfl⟩
      rw [hb]
      go_wp2
      try go_ret2
      exact HR.out _ _ ⟨rfl, H.out.set HQ.out hs hi (by omega) (by omega)⟩

end Go.Proofs.Ytlndpljhcempoaa
