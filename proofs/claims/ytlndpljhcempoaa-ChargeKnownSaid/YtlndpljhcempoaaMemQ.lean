/- The methods of a memory: Load, Store, Cas, Cas2, Add: what each answers and leaves, at every place and every number; of no memory: ErrNil. Condition: the memory's two blocks read as words and a count. -/
import Derived.Test.YtlndpljhcempoaaMemP
namespace Go.Proofs.Ytlndpljhcempoaa
open Go.RowKit

theorem enters {f : FuncId} {fn : Func} (hf : Try.prog.funcs[f]? = some fn) (hn : (fn.name == "runtime.NumGoroutine") = false) (hb : fn.body.isNone = false) (args : Array Value) (w : World) :
    (callFunc f args).run Try.prog w = .ok (.enter f args) w := by
  unfold callFunc
  rw [Sem.run_bind]
  simp only [program, Sem.run, Result.andThen_ok, hf]
  rw [if_neg (by rw [hn]; exact Bool.false_ne_true), if_neg (by rw [hb]; exact Bool.false_ne_true)]
  rfl

theorem enters77 (args : Array Value) (w : World) : (callFunc 77 args).run Try.prog w = .ok (.enter 77 args) w := enters Try.func77 (by kernel_rfl) (by kernel_rfl) _ _
theorem enters76 (args : Array Value) (w : World) : (callFunc 76 args).run Try.prog w = .ok (.enter 76 args) w := enters Try.func76 (by kernel_rfl) (by kernel_rfl) _ _
theorem enters78 (args : Array Value) (w : World) : (callFunc 78 args).run Try.prog w = .ok (.enter 78 args) w := enters Try.func78 (by kernel_rfl) (by kernel_rfl) _ _
theorem enters79 (args : Array Value) (w : World) : (callFunc 79 args).run Try.prog w = .ok (.enter 79 args) w := enters Try.func79 (by kernel_rfl) (by kernel_rfl) _ _
theorem enters80 (args : Array Value) (w : World) : (callFunc 80 args).run Try.prog w = .ok (.enter 80 args) w := enters Try.func80 (by kernel_rfl) (by kernel_rfl) _ _

/-- Does the memory have so many places from at on? -/
def inb (ws : List Int) (at_ : Int) (many : Nat) : Bool := decide (0 ≤ at_) && decide (at_ + many ≤ ws.length)
def errB (b : Bool) : Int := if b then 0 else 9
def ldV (ws : List Int) (at_ : Int) : Int := if inb ws at_ 1 then ws.getD at_.toNat 0 else 0
def cntN (ws : List Int) (at_ : Int) (many : Nat) (cnt : Int) : Int := if inb ws at_ many then wrap64 (cnt + 1) else cnt

theorem inb_true {ws : List Int} {at_ : Int} {many : Nat} (h : inb ws at_ many = true) : ∃ k : Nat, at_ = (k : Int) ∧ k + many ≤ ws.length := by
  simp only [inb, Bool.and_eq_true, decide_eq_true_eq] at h
  exact ⟨at_.toNat, by omega, by omega⟩

theorem inb_false {ws : List Int} {at_ : Int} {many : Nat} (h : inb ws at_ many = false) : at_ < 0 ∨ (ws.length : Int) - many < at_ := by
  simp only [inb, Bool.and_eq_false_iff, decide_eq_false_iff_not] at h
  omega


theorem inb_len {ws : List Int} {at_ : Int} {many : Nat} (h : inb ws at_ many = false) (hm : many ≤ 2) : 0 ≤ (many : Int) ∧ (many : Int) ≤ 2 ∧ (at_ < 0 ∨ (ws.length : Int) - many < at_) := ⟨by omega, by omega, inb_false h⟩

def stW (ws : List Int) (i v : Int) : List Int := if inb ws i 1 then ws.set i.toNat v else ws
def casB (ws : List Int) (i old : Int) : Bool := inb ws i 1 && (ws.getD i.toNat 0 == old)
def casW (ws : List Int) (i old to : Int) : List Int := if casB ws i old then ws.set i.toNat to else ws
def cas2B (ws : List Int) (i old second : Int) : Bool := inb ws i 2 && (ws.getD i.toNat 0 == old && ws.getD (i.toNat + 1) 0 == second)
def cas2W (ws : List Int) (i old second to other : Int) : List Int := if cas2B ws i old second then (ws.set i.toNat to).set (i.toNat + 1) other else ws
def addW (ws : List Int) (i n : Int) : List Int := if inb ws i 1 then ws.set i.toNat (IntKind.u64.wrap (ws.getD i.toNat 0 + n)) else ws

/-- A memory behind a write of its words. -/
theorem MemIs.written {w w' : World} {bm bw : Nat} {ws ws' : List Int} {cnt : Int} {S : List Nat} (h : MemIs w bm bw ws cnt) (hk : Keeps S w w') (h1 : bm ∉ S) (hl : ws'.length = ws.length) (hr : Row w' bw 29 (wd ws')) : MemIs w' bm bw ws' cnt :=
  ⟨by rw [hl]; exact hk.row h.hd h1, hr, h.ne, by rw [hl]; exact h.len⟩

set_option maxRecDepth 100000 in
set_option maxHeartbeats 400000 in
/-- Load. -/
theorem load_any (w : World) (bm bw : Nat) (ws : List Int) (cnt : Int) (h : MemIs w bm bw ws cnt) (i : Int) :
    Calls Try.prog 25 #[.pointer (some ⟨bm, 0, none⟩), .int .i64 i] w fun e w' => e = .returned (.tuple #[.int .u64 (ldV ws i), .int .i64 (errB (inb ws i 1))]) ∧ MemIs w' bm bw ws (cntN ws i 1 cnt) ∧ Keeps [bm, bw] w w' := by
  refine calls_hide fun R HR => ?_
  have hbm := h.hd.lt
  have hbw := h.wr.lt
  have hk := (Keeps.refl [] w).alloc (.cells #[.int .u64 0] 29)
  have h1 := h.keeps hk (by simp) (by simp)
  have hx := Row.new w [.int .u64 0] 29
  cases hb : inb ws i 1 with
  | true =>
    obtain ⟨k, rfl, hk1⟩ := inb_true hb
    have hv : ldV ws k = ws.getD k 0 := by simp [ldV, hb]
    have hn : cntN ws k 1 cnt = wrap64 (cnt + 1) := by simp [cntN, hb]
    rw [hv, hb, hn] at HR
    clear hb hv hn
    generalize hy : ws.getD k 0 = y at *
    have HY := Lib.hid hy
    clear hy
    go_enter Try.func25, Try.ntmps25
    go_wp2_with fail
    refine (access_ok _ bm bw ws cnt h1 k 1 _ rfl (by omega) hk1 77 enters77 _ (fun w2 => Row w2 w.heap.size 29 [.int .u64 y] ∧ MemIs w2 bm bw ws (wrap64 (cnt + 1)) ∧ Keeps [bm] w w2) ?_).mono ?_
    · intro w1 hw1
      subst hw1
      have h2 := h1.counted (wrap64 (cnt + 1))
      have hx2 := hx.setOther (a := ⟨bm, 1, none⟩) (by simp; omega) (.int .i64 (wrap64 (cnt + 1)))
      refine (load_do _ bw ws h2.wr k _ (by omega) w.heap.size _ hx2).mono ?_
      rintro e w2 ⟨rfl, hr, hk2⟩
      rw [HY.out] at hr
      refine ⟨rfl, hr, h2.keeps hk2 (by simp; omega) (by simp; omega), ?_⟩
      exact ((hk.wider (T := [bm]) (by simp)).set (by simp) _).trans hk2 (by simp)
    · rintro e w2 ⟨rfl, hp⟩
      have hp' := Lib.hid hp
      have hc := hp.1.cell (i := 0) rfl
      have hf := hp.1.free 0
      clear hp hx h1 h hk
      go_wp2_with fail
      refine bodyPost_ret (v := .tuple #[.int .u64 y, .int .i64 0]) (by simp [results, Try.results25, go_sem, World.cell?_setCell_same _ _ _ hc]) rfl (HR.out _ _ ⟨rfl, ?_, ?_⟩)
      · exact hp'.out.2.1.keeps ((Keeps.refl [w.heap.size] _).set (by simp) _) (by simp; omega) (by simp; omega)
      · exact (hp'.out.2.2.set (by simp) _).wider (by simp)
  | false =>
    have hv : ldV ws i = 0 := by simp [ldV, hb]
    have hn : cntN ws i 1 cnt = cnt := by simp [cntN, hb]
    rw [hv, hb, hn] at HR
    obtain ⟨ha, hb1, hb2⟩ := inb_len hb (by omega)
    clear hb hv hn
    have hc := hx.cell (i := 0) rfl
    have hf := hx.free 0
    go_enter Try.func25, Try.ntmps25
    go_wp2_with fail
    refine (access_range _ bm bw ws cnt h1 i _ ha hb1 hb2 77 _).mono ?_
    rintro e w2 ⟨rfl, rfl⟩
    go_wp2_with fail
    refine bodyPost_ret (v := .tuple #[.int .u64 0, .int .i64 9]) (by simp [results, Try.results25, go_sem]) rfl (HR.out _ _ ⟨rfl, ?_, ?_⟩)
    · exact h.keeps ((Keeps.refl [] w).alloc _) (by simp) (by simp)
    · exact ((Keeps.refl _ _).alloc _)

set_option maxRecDepth 100000 in
set_option maxHeartbeats 400000 in
/-- Load, of no memory. -/
theorem load_none (w : World) (v : Value) (h : NoMem w v) (i : Int) :
    Calls Try.prog 25 #[v, .int .i64 i] w fun e w' => e = .returned (.tuple #[.int .u64 0, .int .i64 1]) ∧ Keeps [] w w' := by
  refine calls_hide fun R HR => ?_
  have h1 := h.keeps ((Keeps.refl [] w).alloc (.cells #[.int .u64 0] 29)) (by simp)
  have hx := Row.new w [.int .u64 0] 29
  have hc := hx.cell (i := 0) rfl
  have hf := hx.free 0
  go_enter Try.func25, Try.ntmps25
  go_wp2_with fail
  refine (access_none _ v h1 i _ 77 _).mono ?_
  rintro e w2 ⟨rfl, rfl⟩
  go_wp2_with fail
  refine bodyPost_ret (v := .tuple #[.int .u64 0, .int .i64 1]) (by simp [results, Try.results25, go_sem]) rfl (HR.out _ _ ⟨rfl, ?_⟩)
  exact ((Keeps.refl _ _).alloc _)

set_option maxRecDepth 100000 in
set_option maxHeartbeats 400000 in
/-- Store. -/
theorem store_any (w : World) (bm bw : Nat) (ws : List Int) (cnt : Int) (h : MemIs w bm bw ws cnt) (i v : Int) :
    Calls Try.prog 26 #[.pointer (some ⟨bm, 0, none⟩), .int .i64 i, .int .u64 v] w fun e w' => e = .returned (.int .i64 (errB (inb ws i 1))) ∧ MemIs w' bm bw (stW ws i v) (cntN ws i 1 cnt) ∧ Keeps [bm, bw] w w' := by
  refine calls_hide fun R HR => ?_
  have hbm := h.hd.lt
  have hbw := h.wr.lt
  have hk := (Keeps.refl [] w).alloc (.cells #[.int .u64 v] 29)
  have h1 := h.keeps hk (by simp) (by simp)
  have hx := Row.new w [.int .u64 v] 29
  cases hb : inb ws i 1 with
  | true =>
    obtain ⟨k, rfl, hk1⟩ := inb_true hb
    have hv : stW ws k v = ws.set k v := by simp [stW, hb]
    have hn : cntN ws k 1 cnt = wrap64 (cnt + 1) := by simp [cntN, hb]
    rw [hv, hb, hn] at HR
    clear hb hv hn
    go_enter Try.func26, Try.ntmps26
    go_wp2_with fail
    refine (access_ok _ bm bw ws cnt h1 k 1 _ rfl (by omega) hk1 78 enters78 _ (fun w2 => MemIs w2 bm bw (ws.set k v) (wrap64 (cnt + 1)) ∧ Keeps [bm, bw] w w2) ?_).mono ?_
    · intro w1 hw1
      subst hw1
      have h2 := h1.counted (wrap64 (cnt + 1))
      have hx2 := hx.setOther (a := ⟨bm, 1, none⟩) (by simp; omega) (.int .i64 (wrap64 (cnt + 1)))
      refine (store_do _ bw ws h2.wr k _ (by omega) w.heap.size v hx2).mono ?_
      rintro e w2 ⟨rfl, hr, hk2⟩
      refine ⟨rfl, h2.written hk2 (by simpa using h.ne) (by simp) hr, ?_⟩
      exact ((hk.wider (T := [bm, bw]) (by simp)).set (by simp) _).trans hk2 (by simp)
    · rintro e w2 ⟨rfl, hp⟩
      have hp' := Lib.hid hp
      clear hp hx h1 h hk
      go_wp2_with fail
      try go_ret
      exact HR.out _ _ ⟨rfl, hp'.out⟩
  | false =>
    have hv : stW ws i v = ws := by simp [stW, hb]
    have hn : cntN ws i 1 cnt = cnt := by simp [cntN, hb]
    rw [hv, hb, hn] at HR
    obtain ⟨ha, hb1, hb2⟩ := inb_len hb (by omega)
    clear hb hv hn
    go_enter Try.func26, Try.ntmps26
    go_wp2_with fail
    refine (access_range _ bm bw ws cnt h1 i _ ha hb1 hb2 78 _).mono ?_
    rintro e w2 ⟨rfl, rfl⟩
    go_wp2_with fail
    try go_ret
    exact HR.out _ _ ⟨rfl, h1, (Keeps.refl _ _).alloc _⟩

set_option maxRecDepth 100000 in
set_option maxHeartbeats 400000 in
/-- Store, of no memory. -/
theorem store_none (w : World) (v : Value) (h : NoMem w v) (i n : Int) :
    Calls Try.prog 26 #[v, .int .i64 i, .int .u64 n] w fun e w' => e = .returned (.int .i64 1) ∧ Keeps [] w w' := by
  refine calls_hide fun R HR => ?_
  have h1 := h.keeps ((Keeps.refl [] w).alloc (.cells #[.int .u64 n] 29)) (by simp)
  go_enter Try.func26, Try.ntmps26
  go_wp2_with fail
  refine (access_none _ v h1 i _ 78 _).mono ?_
  rintro e w2 ⟨rfl, rfl⟩
  go_wp2_with fail
  try go_ret
  exact HR.out _ _ ⟨rfl, (Keeps.refl _ _).alloc _⟩

set_option maxRecDepth 100000 in
set_option maxHeartbeats 400000 in
/-- Cas. -/
theorem cas_any (w : World) (bm bw : Nat) (ws : List Int) (cnt : Int) (h : MemIs w bm bw ws cnt) (i old to : Int) :
    Calls Try.prog 28 #[.pointer (some ⟨bm, 0, none⟩), .int .i64 i, .int .u64 old, .int .u64 to] w fun e w' => e = .returned (.tuple #[.bool (casB ws i old), .int .i64 (errB (inb ws i 1))]) ∧ MemIs w' bm bw (casW ws i old to) (cntN ws i 1 cnt) ∧ Keeps [bm, bw] w w' := by
  refine calls_hide fun R HR => ?_
  have hbm := h.hd.lt
  have hbw := h.wr.lt
  have hk := (((Keeps.refl [] w).alloc (.cells #[.int .u64 old] 29)).alloc (.cells #[.int .u64 to] 29)).alloc (.cells #[.bool false] 4)
  have h1 := h.keeps hk (by simp) (by simp)
  have hx0 := ((Row.new w [.int .u64 old] 29).alloc (.cells #[.int .u64 to] 29)).alloc (.cells #[.bool false] 4)
  have hx1 := (Row.new (w.alloc (.cells #[.int .u64 old] 29)) [.int .u64 to] 29).alloc (.cells #[.bool false] 4)
  have hx2 := Row.new ((w.alloc (.cells #[.int .u64 old] 29)).alloc (.cells #[.int .u64 to] 29)) [.bool false] 4
  simp only [World.size_alloc] at hx1 hx2
  cases hb : inb ws i 1 with
  | true =>
    obtain ⟨k, rfl, hk1⟩ := inb_true hb
    have hv : casB ws k old = (ws.getD k 0 == old) := by simp [casB, hb]
    have hw : casW ws k old to = if ws.getD k 0 = old then ws.set k to else ws := by simp [casW, hv]
    have hn : cntN ws k 1 cnt = wrap64 (cnt + 1) := by simp [cntN, hb]
    rw [hv, hb, hn, hw] at HR
    clear hb hv hn hw
    generalize hB : (ws.getD k 0 == old) = B at *
    generalize hW : (if ws.getD k 0 = old then ws.set k to else ws) = W at *
    have HY := Lib.hid (And.intro hB hW)
    clear hB hW
    go_enter Try.func28, Try.ntmps28
    go_wp2_with fail
    refine (access_ok _ bm bw ws cnt h1 k 1 _ rfl (by omega) hk1 80 enters80 _ (fun w2 => Row w2 (w.heap.size + 1 + 1) 4 [.bool B] ∧ MemIs w2 bm bw W (wrap64 (cnt + 1)) ∧ Keeps [bm, bw] w w2) ?_).mono ?_
    · intro w1 hw1
      subst hw1
      have h2 := h1.counted (wrap64 (cnt + 1))
      have hy0 := hx0.setOther (a := ⟨bm, 1, none⟩) (by simp; omega) (.int .i64 (wrap64 (cnt + 1)))
      have hy1 := hx1.setOther (a := ⟨bm, 1, none⟩) (by simp; omega) (.int .i64 (wrap64 (cnt + 1)))
      have hy2 := hx2.setOther (a := ⟨bm, 1, none⟩) (by simp; omega) (.int .i64 (wrap64 (cnt + 1)))
      refine (cas_do _ bw ws h2.wr k _ (by omega) w.heap.size (w.heap.size + 1 + 1) (w.heap.size + 1) old to _ hy0 hy2 hy1 (by omega) (by omega) (by omega)).mono ?_
      rintro e w2 ⟨rfl, hr, hr2, hk2⟩
      rw [HY.out.1] at hr
      rw [HY.out.2] at hr2
      have hl : W.length = ws.length := by rw [← HY.out.2]; split <;> simp
      refine ⟨rfl, hr, h2.written hk2 (by simp; have := h.ne; omega) hl hr2, ?_⟩
      exact ((hk.wider (T := [bm, bw]) (by simp)).set (by simp) _).trans hk2 (by simp; omega)
    · rintro e w2 ⟨rfl, hp⟩
      have hp' := Lib.hid hp
      have hc := hp.1.cell (i := 0) rfl
      have hf := hp.1.free 0
      clear hp hx0 hx1 hx2 h1 h hk
      go_wp2_with fail
      refine bodyPost_ret (v := .tuple #[.bool B, .int .i64 0]) (by simp [results, Try.results28, go_sem, World.cell?_setCell_same _ _ _ hc]) rfl (HR.out _ _ ⟨rfl, ?_, ?_⟩)
      · exact hp'.out.2.1.keeps ((Keeps.refl [w.heap.size + 1 + 1] _).set (by simp) _) (by simp; omega) (by simp; omega)
      · exact (hp'.out.2.2.set (by simp; omega) _).wider (by simp)
  | false =>
    have hv : casB ws i old = false := by simp [casB, hb]
    have hw : casW ws i old to = ws := by simp [casW, hv]
    have hn : cntN ws i 1 cnt = cnt := by simp [cntN, hb]
    rw [hv, hb, hn, hw] at HR
    obtain ⟨ha, hb1, hb2⟩ := inb_len hb (by omega)
    clear hb hv hn hw
    have hc := hx2.cell (i := 0) rfl
    have hf := hx2.free 0
    go_enter Try.func28, Try.ntmps28
    go_wp2_with fail
    refine (access_range _ bm bw ws cnt h1 i _ ha hb1 hb2 80 _).mono ?_
    rintro e w2 ⟨rfl, rfl⟩
    go_wp2_with fail
    refine bodyPost_ret (v := .tuple #[.bool false, .int .i64 9]) (by simp [results, Try.results28, go_sem]) rfl (HR.out _ _ ⟨rfl, ?_, ?_⟩)
    · exact h1
    · exact hk.wider (by simp)

set_option maxRecDepth 100000 in
set_option maxHeartbeats 400000 in
/-- Cas, of no memory. -/
theorem cas_none (w : World) (v : Value) (h : NoMem w v) (i old to : Int) :
    Calls Try.prog 28 #[v, .int .i64 i, .int .u64 old, .int .u64 to] w fun e w' => e = .returned (.tuple #[.bool false, .int .i64 1]) ∧ Keeps [] w w' := by
  refine calls_hide fun R HR => ?_
  have hk := (((Keeps.refl [] w).alloc (.cells #[.int .u64 old] 29)).alloc (.cells #[.int .u64 to] 29)).alloc (.cells #[.bool false] 4)
  have h1 := h.keeps hk (by simp)
  have hx2 := Row.new ((w.alloc (.cells #[.int .u64 old] 29)).alloc (.cells #[.int .u64 to] 29)) [.bool false] 4
  simp only [World.size_alloc] at hx2
  have hc := hx2.cell (i := 0) rfl
  have hf := hx2.free 0
  go_enter Try.func28, Try.ntmps28
  go_wp2_with fail
  refine (access_none _ v h1 i _ 80 _).mono ?_
  rintro e w2 ⟨rfl, rfl⟩
  go_wp2_with fail
  refine bodyPost_ret (v := .tuple #[.bool false, .int .i64 1]) (by simp [results, Try.results28, go_sem]) rfl (HR.out _ _ ⟨rfl, hk⟩)

set_option maxRecDepth 100000 in
set_option maxHeartbeats 400000 in
/-- Cas2. -/
theorem cas2_any (w : World) (bm bw : Nat) (ws : List Int) (cnt : Int) (h : MemIs w bm bw ws cnt) (i old second to other : Int) :
    Calls Try.prog 27 #[.pointer (some ⟨bm, 0, none⟩), .int .i64 i, .int .u64 old, .int .u64 second, .int .u64 to, .int .u64 other] w
      fun e w' => e = .returned (.tuple #[.bool (cas2B ws i old second), .int .i64 (errB (inb ws i 2))]) ∧ MemIs w' bm bw (cas2W ws i old second to other) (cntN ws i 2 cnt) ∧ Keeps [bm, bw] w w' := by
  refine calls_hide fun R HR => ?_
  have hbm := h.hd.lt
  have hbw := h.wr.lt
  have hk := (((((Keeps.refl [] w).alloc (.cells #[.int .u64 old] 29)).alloc (.cells #[.int .u64 second] 29)).alloc (.cells #[.int .u64 to] 29)).alloc (.cells #[.int .u64 other] 29)).alloc (.cells #[.bool false] 4)
  have h1 := h.keeps hk (by simp) (by simp)
  have hx0 := ((((Row.new w [.int .u64 old] 29).alloc (.cells #[.int .u64 second] 29)).alloc (.cells #[.int .u64 to] 29)).alloc (.cells #[.int .u64 other] 29)).alloc (.cells #[.bool false] 4)
  have hx1 := (((Row.new (w.alloc (.cells #[.int .u64 old] 29)) [.int .u64 second] 29).alloc (.cells #[.int .u64 to] 29)).alloc (.cells #[.int .u64 other] 29)).alloc (.cells #[.bool false] 4)
  have hx2 := ((Row.new ((w.alloc (.cells #[.int .u64 old] 29)).alloc (.cells #[.int .u64 second] 29)) [.int .u64 to] 29).alloc (.cells #[.int .u64 other] 29)).alloc (.cells #[.bool false] 4)
  have hx3 := (Row.new (((w.alloc (.cells #[.int .u64 old] 29)).alloc (.cells #[.int .u64 second] 29)).alloc (.cells #[.int .u64 to] 29)) [.int .u64 other] 29).alloc (.cells #[.bool false] 4)
  have hx4 := Row.new ((((w.alloc (.cells #[.int .u64 old] 29)).alloc (.cells #[.int .u64 second] 29)).alloc (.cells #[.int .u64 to] 29)).alloc (.cells #[.int .u64 other] 29)) [.bool false] 4
  simp only [World.size_alloc] at hx1 hx2 hx3 hx4
  cases hb : inb ws i 2 with
  | true =>
    obtain ⟨k, rfl, hk1⟩ := inb_true hb
    have hv : cas2B ws k old second = (ws.getD k 0 == old && ws.getD (k + 1) 0 == second) := by simp [cas2B, hb]
    have hw : cas2W ws k old second to other = if ws.getD k 0 = old ∧ ws.getD (k + 1) 0 = second then (ws.set k to).set (k + 1) other else ws := by simp [cas2W, hv]
    have hn : cntN ws k 2 cnt = wrap64 (cnt + 1) := by simp [cntN, hb]
    rw [hv, hb, hn, hw] at HR
    clear hb hv hn hw
    generalize hB : (ws.getD k 0 == old && ws.getD (k + 1) 0 == second) = B at *
    generalize hW : (if ws.getD k 0 = old ∧ ws.getD (k + 1) 0 = second then (ws.set k to).set (k + 1) other else ws) = W at *
    have HY := Lib.hid (And.intro hB hW)
    clear hB hW
    go_enter Try.func27, Try.ntmps27
    go_wp2_with fail
    refine (access_ok _ bm bw ws cnt h1 k 2 _ rfl (by omega) hk1 79 enters79 _ (fun w2 => Row w2 (w.heap.size + 1 + 1 + 1 + 1) 4 [.bool B] ∧ MemIs w2 bm bw W (wrap64 (cnt + 1)) ∧ Keeps [bm, bw] w w2) ?_).mono ?_
    · intro w1 hw1
      subst hw1
      have h2 := h1.counted (wrap64 (cnt + 1))
      have hy0 := hx0.setOther (a := ⟨bm, 1, none⟩) (by simp; omega) (.int .i64 (wrap64 (cnt + 1)))
      have hy1 := hx1.setOther (a := ⟨bm, 1, none⟩) (by simp; omega) (.int .i64 (wrap64 (cnt + 1)))
      have hy2 := hx2.setOther (a := ⟨bm, 1, none⟩) (by simp; omega) (.int .i64 (wrap64 (cnt + 1)))
      have hy3 := hx3.setOther (a := ⟨bm, 1, none⟩) (by simp; omega) (.int .i64 (wrap64 (cnt + 1)))
      have hy4 := hx4.setOther (a := ⟨bm, 1, none⟩) (by simp; omega) (.int .i64 (wrap64 (cnt + 1)))
      refine (cas2_do _ bw ws h2.wr k _ (by omega) w.heap.size (w.heap.size + 1) (w.heap.size + 1 + 1 + 1 + 1) (w.heap.size + 1 + 1) (w.heap.size + 1 + 1 + 1) old second to other _ hy0 hy1 hy4 hy2 hy3 (by omega) (by omega) (by omega) (by omega) (by omega) (by omega) (by omega)).mono ?_
      rintro e w2 ⟨rfl, hr, hr2, hk2⟩
      rw [HY.out.1] at hr
      rw [HY.out.2] at hr2
      have hl : W.length = ws.length := by rw [← HY.out.2]; split <;> simp
      refine ⟨rfl, hr, h2.written hk2 (by simp; have := h.ne; omega) hl hr2, ?_⟩
      exact ((hk.wider (T := [bm, bw]) (by simp)).set (by simp) _).trans hk2 (by simp; omega)
    · rintro e w2 ⟨rfl, hp⟩
      have hp' := Lib.hid hp
      have hc := hp.1.cell (i := 0) rfl
      have hf := hp.1.free 0
      clear hp hx0 hx1 hx2 hx3 hx4 h1 h hk
      go_wp2_with fail
      refine bodyPost_ret (v := .tuple #[.bool B, .int .i64 0]) (by simp [results, Try.results27, go_sem, World.cell?_setCell_same _ _ _ hc]) rfl (HR.out _ _ ⟨rfl, ?_, ?_⟩)
      · exact hp'.out.2.1.keeps ((Keeps.refl [w.heap.size + 1 + 1 + 1 + 1] _).set (by simp) _) (by simp; omega) (by simp; omega)
      · exact (hp'.out.2.2.set (by simp; omega) _).wider (by simp)
  | false =>
    have hv : cas2B ws i old second = false := by simp [cas2B, hb]
    have hw : cas2W ws i old second to other = ws := by simp [cas2W, hv]
    have hn : cntN ws i 2 cnt = cnt := by simp [cntN, hb]
    rw [hv, hb, hn, hw] at HR
    obtain ⟨ha, hb1, hb2⟩ := inb_len hb (by omega)
    clear hb hv hn hw
    have hc := hx4.cell (i := 0) rfl
    have hf := hx4.free 0
    go_enter Try.func27, Try.ntmps27
    go_wp2_with fail
    refine (access_range _ bm bw ws cnt h1 i _ ha hb1 hb2 79 _).mono ?_
    rintro e w2 ⟨rfl, rfl⟩
    go_wp2_with fail
    refine bodyPost_ret (v := .tuple #[.bool false, .int .i64 9]) (by simp [results, Try.results27, go_sem]) rfl (HR.out _ _ ⟨rfl, ?_, ?_⟩)
    · exact h1
    · exact hk.wider (by simp)

set_option maxRecDepth 100000 in
set_option maxHeartbeats 400000 in
/-- Cas2, of no memory. -/
theorem cas2_none (w : World) (v : Value) (h : NoMem w v) (i old second to other : Int) :
    Calls Try.prog 27 #[v, .int .i64 i, .int .u64 old, .int .u64 second, .int .u64 to, .int .u64 other] w fun e w' => e = .returned (.tuple #[.bool false, .int .i64 1]) ∧ Keeps [] w w' := by
  refine calls_hide fun R HR => ?_
  have hk := (((((Keeps.refl [] w).alloc (.cells #[.int .u64 old] 29)).alloc (.cells #[.int .u64 second] 29)).alloc (.cells #[.int .u64 to] 29)).alloc (.cells #[.int .u64 other] 29)).alloc (.cells #[.bool false] 4)
  have h1 := h.keeps hk (by simp)
  have hx4 := Row.new ((((w.alloc (.cells #[.int .u64 old] 29)).alloc (.cells #[.int .u64 second] 29)).alloc (.cells #[.int .u64 to] 29)).alloc (.cells #[.int .u64 other] 29)) [.bool false] 4
  simp only [World.size_alloc] at hx4
  have hc := hx4.cell (i := 0) rfl
  have hf := hx4.free 0
  go_enter Try.func27, Try.ntmps27
  go_wp2_with fail
  refine (access_none _ v h1 i _ 79 _).mono ?_
  rintro e w2 ⟨rfl, rfl⟩
  go_wp2_with fail
  refine bodyPost_ret (v := .tuple #[.bool false, .int .i64 1]) (by simp [results, Try.results27, go_sem]) rfl (HR.out _ _ ⟨rfl, hk⟩)

set_option maxRecDepth 100000 in
set_option maxHeartbeats 400000 in
/-- Add. -/
theorem add_any (w : World) (bm bw : Nat) (ws : List Int) (cnt : Int) (h : MemIs w bm bw ws cnt) (i n : Int) :
    Calls Try.prog 24 #[.pointer (some ⟨bm, 0, none⟩), .int .i64 i, .int .u64 n] w fun e w' => e = .returned (.tuple #[.int .u64 (ldV ws i), .int .i64 (errB (inb ws i 1))]) ∧ MemIs w' bm bw (addW ws i n) (cntN ws i 1 cnt) ∧ Keeps [bm, bw] w w' := by
  refine calls_hide fun R HR => ?_
  have hbm := h.hd.lt
  have hbw := h.wr.lt
  have hk := ((Keeps.refl [] w).alloc (.cells #[.int .u64 n] 29)).alloc (.cells #[.int .u64 0] 29)
  have h1 := h.keeps hk (by simp) (by simp)
  have hx0 := (Row.new w [.int .u64 n] 29).alloc (.cells #[.int .u64 0] 29)
  have hx1 := Row.new (w.alloc (.cells #[.int .u64 n] 29)) [.int .u64 0] 29
  simp only [World.size_alloc] at hx1
  cases hb : inb ws i 1 with
  | true =>
    obtain ⟨k, rfl, hk1⟩ := inb_true hb
    have hv : ldV ws k = ws.getD k 0 := by simp [ldV, hb]
    have hw : addW ws k n = ws.set k (IntKind.u64.wrap (ws.getD k 0 + n)) := by simp [addW, hb]
    have hn : cntN ws k 1 cnt = wrap64 (cnt + 1) := by simp [cntN, hb]
    rw [hv, hb, hn, hw] at HR
    clear hb hv hn hw
    generalize hW : ws.set k (IntKind.u64.wrap (ws.getD k 0 + n)) = W at *
    generalize hB : ws.getD k 0 = B at *
    have HY := Lib.hid (And.intro hB hW)
    clear hB hW
    go_enter Try.func24, Try.ntmps24
    go_wp2_with fail
    refine (access_ok _ bm bw ws cnt h1 k 1 _ rfl (by omega) hk1 76 enters76 _ (fun w2 => Row w2 (w.heap.size + 1) 29 [.int .u64 B] ∧ MemIs w2 bm bw W (wrap64 (cnt + 1)) ∧ Keeps [bm, bw] w w2) ?_).mono ?_
    · intro w1 hw1
      subst hw1
      have h2 := h1.counted (wrap64 (cnt + 1))
      have hy0 := hx0.setOther (a := ⟨bm, 1, none⟩) (by simp; omega) (.int .i64 (wrap64 (cnt + 1)))
      have hy1 := hx1.setOther (a := ⟨bm, 1, none⟩) (by simp; omega) (.int .i64 (wrap64 (cnt + 1)))
      refine (add_do _ bw ws h2.wr k _ (by omega) (w.heap.size + 1) w.heap.size _ n hy1 hy0 (by omega) (by omega) (by omega)).mono ?_
      rintro e w2 ⟨rfl, hr, hr2, hk2⟩
      rw [HY.out.1] at hr hr2
      rw [HY.out.2] at hr2
      have hl : W.length = ws.length := by rw [← HY.out.2]; simp
      refine ⟨rfl, hr, h2.written hk2 (by simp; have := h.ne; omega) hl hr2, ?_⟩
      exact ((hk.wider (T := [bm, bw]) (by simp)).set (by simp) _).trans hk2 (by simp)
    · rintro e w2 ⟨rfl, hp⟩
      have hp' := Lib.hid hp
      have hc := hp.1.cell (i := 0) rfl
      have hf := hp.1.free 0
      clear hp hx0 hx1 h1 h hk
      go_wp2_with fail
      refine bodyPost_ret (v := .tuple #[.int .u64 B, .int .i64 0]) (by simp [results, Try.results24, go_sem, World.cell?_setCell_same _ _ _ hc]) rfl (HR.out _ _ ⟨rfl, ?_, ?_⟩)
      · exact hp'.out.2.1.keeps ((Keeps.refl [w.heap.size + 1] _).set (by simp) _) (by simp; omega) (by simp; omega)
      · exact (hp'.out.2.2.set (by simp) _).wider (by simp)
  | false =>
    have hv : ldV ws i = 0 := by simp [ldV, hb]
    have hw : addW ws i n = ws := by simp [addW, hb]
    have hn : cntN ws i 1 cnt = cnt := by simp [cntN, hb]
    rw [hv, hb, hn, hw] at HR
    obtain ⟨ha, hb1, hb2⟩ := inb_len hb (by omega)
    clear hb hv hn hw
    have hc := hx1.cell (i := 0) rfl
    have hf := hx1.free 0
    go_enter Try.func24, Try.ntmps24
    go_wp2_with fail
    refine (access_range _ bm bw ws cnt h1 i _ ha hb1 hb2 76 _).mono ?_
    rintro e w2 ⟨rfl, rfl⟩
    go_wp2_with fail
    refine bodyPost_ret (v := .tuple #[.int .u64 0, .int .i64 9]) (by simp [results, Try.results24, go_sem]) rfl (HR.out _ _ ⟨rfl, ?_, ?_⟩)
    · exact h1
    · exact hk.wider (by simp)

set_option maxRecDepth 100000 in
set_option maxHeartbeats 400000 in
/-- Add, of no memory. -/
theorem add_none (w : World) (v : Value) (h : NoMem w v) (i n : Int) :
    Calls Try.prog 24 #[v, .int .i64 i, .int .u64 n] w fun e w' => e = .returned (.tuple #[.int .u64 0, .int .i64 1]) ∧ Keeps [] w w' := by
  refine calls_hide fun R HR => ?_
  have hk := ((Keeps.refl [] w).alloc (.cells #[.int .u64 n] 29)).alloc (.cells #[.int .u64 0] 29)
  have h1 := h.keeps hk (by simp)
  have hx2 := Row.new (w.alloc (.cells #[.int .u64 n] 29)) [.int .u64 0] 29
  simp only [World.size_alloc] at hx2
  have hc := hx2.cell (i := 0) rfl
  have hf := hx2.free 0
  go_enter Try.func24, Try.ntmps24
  go_wp2_with fail
  refine (access_none _ v h1 i _ 76 _).mono ?_
  rintro e w2 ⟨rfl, rfl⟩
  go_wp2_with fail
  refine bodyPost_ret (v := .tuple #[.int .u64 0, .int .i64 1]) (by simp [results, Try.results24, go_sem]) rfl (HR.out _ _ ⟨rfl, hk⟩)

end Go.Proofs.Ytlndpljhcempoaa
