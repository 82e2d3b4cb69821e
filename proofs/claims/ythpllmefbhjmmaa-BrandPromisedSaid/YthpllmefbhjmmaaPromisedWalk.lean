/-
  The walk of 'BrandPromised': it answers true, for any lot and number that fit; all else stays as it was.
-/
import Derived.Test.YthpllmefbhjmmaaPromisedLaw
import Derived.Test.YthpllmefbhjmmaaOddsLaw
import Derived.Test.YthpllmefbhjmmaaBarrelRows
import Derived.Test.YthpllmefbhjmmaaArgLot
import Derived.Deep.DeepCutAuto
import Derived.Deep.AppendLies
import Derived.Lib.QuietBelow
import Derived.BigQuiet
import Derived.OwnWalk
namespace Go.Proofs.Ythpllmefbhjmmaa
open Go.ChangeShapes Go.WideShapes Go.ChangeAt Go.RowKit Plain
attribute [local go_sem] Oper.semAt_some

/-- The lot's nine cells. -/
def LotAt (w : World) (A : Nat) (mv : Value) (N : Int) (r : Rl) (ov : Value) : Prop :=
  w.cell? ⟨A, 0, none⟩ = some mv ∧ w.cell? ⟨A, 1, none⟩ = some (.int .i64 N) ∧ w.cell? ⟨A, 2, none⟩ = some (.int .i64 r.g) ∧ w.cell? ⟨A, 3, none⟩ = some (.int .i64 r.po) ∧ w.cell? ⟨A, 4, none⟩ = some (.int .i64 r.pi) ∧
    w.cell? ⟨A, 5, none⟩ = some (.int .i64 r.b) ∧ w.cell? ⟨A, 6, none⟩ = some (.int .i64 r.fo) ∧ w.cell? ⟨A, 7, none⟩ = some (.int .i64 r.fi) ∧ w.cell? ⟨A, 8, none⟩ = some ov
theorem LotAt.kept {w w' : World} {A : Nat} {mv : Value} {N : Int} {r : Rl} {ov : Value} (h : LotAt w A mv N r ov) (hb : w'.heap[A]? = w.heap[A]?) : LotAt w' A mv N r ov := by
  have k : ∀ i, w'.cell? ⟨A, i, none⟩ = w.cell? ⟨A, i, none⟩ := fun i => World.cell?_of_block (a := ⟨A, i, none⟩) hb
  obtain ⟨h0, h1, h2, h3, h4, h5, h6, h7, h8⟩ := h
  exact ⟨(k _).trans h0, (k _).trans h1, (k _).trans h2, (k _).trans h3, (k _).trans h4, (k _).trans h5, (k _).trans h6, (k _).trans h7, (k _).trans h8⟩
theorem LotAt.set8 {w : World} {A : Nat} {mv : Value} {N : Int} {r : Rl} {ov : Value} (h : LotAt w A mv N r ov) (u : Value) : LotAt (w.setCell ⟨A, 8, none⟩ u) A mv N r u := by
  obtain ⟨h0, h1, h2, h3, h4, h5, h6, h7, h8⟩ := h
  unfold LotAt
  exact ⟨by go_simp, by go_simp, by go_simp, by go_simp, by go_simp, by go_simp, by go_simp, by go_simp, by go_simp⟩
theorem LotAt.lt {w : World} {A : Nat} {mv : Value} {N : Int} {r : Rl} {ov : Value} (h : LotAt w A mv N r ov) : A < w.heap.size := World.block_lt_of_cell? w _ h.1

/-- The lot, its brands, its barrels; all else as it was. -/
def LotS (w : World) (mv : Value) (N : Int) (r : Rl) (ov : Value) (ms : List Mk) (xs : List Br) (w' : World) : Prop :=
  LotAt w' w.heap.size mv N r ov ∧ MarksAt w' mv ms ∧ BrsAt w' ov xs ∧ Below w.heap.size w w'
theorem LotS.below {w : World} {mv : Value} {N : Int} {r : Rl} {ov : Value} {ms : List Mk} {xs : List Br} {w' w2 : World} (h : LotS w mv N r ov ms xs w') (hB : Below w'.heap.size w' w2) : LotS w mv N r ov ms xs w2 :=
  ⟨h.1.kept (hB.block _ h.1.lt), h.2.1.below hB, h.2.2.1.below hB, below_trans h.2.2.2 hB⟩
theorem LotS.start {w : World} {mv : Value} (N : Int) (r : Rl) {ov : Value} {ms : List Mk} {xs : List Br} (h1 : MarksAt w mv ms) (h2 : BrsAt w ov xs) :
    LotS w mv N r ov ms xs (w.alloc (.cells #[mv, .int .i64 N, .int .i64 r.g, .int .i64 r.po, .int .i64 r.pi, .int .i64 r.b, .int .i64 r.fo, .int .i64 r.fi, ov] 67)) :=
  ⟨by unfold LotAt; exact ⟨by go_simp, by go_simp, by go_simp, by go_simp, by go_simp, by go_simp, by go_simp, by go_simp, by go_simp⟩, h1.below (below_alloc _), h2.below (below_alloc _), below_alloc _⟩

theorem info24 : (Try.prog.info? 24).map (fun i => (i.zero, i.size, i.bytes)) = some (some (.agg #[.int .i64 0, .int .i64 0, .int .i64 0, .int .i64 0]), 4, 32) := by kernel_rfl
theorem own_nil24 {W : World} {base B : Nat} (h : W.heap[B]? = some (.cells #[] 24 (0, 0))) (hb : base ≤ B) : W.ownsRow base 24 4 (.slice (some ⟨B, 0, none⟩) 0 0) 0 [] :=
  ⟨rfl, .inr ⟨B, 0, #[], rfl, hb, h, Nat.le_refl _, by unfold maxLen; omega, rfl, rfl⟩⟩
theorem alloc_at (W : World) (a b : Obj) : ((W.alloc a).alloc b).heap[W.heap.size]? = some a ∧ ((W.alloc a).alloc b).heap[W.heap.size + 1]? = some b :=
  ⟨(Below.heap_alloc _ _ _ (by simp)).trans (heap_alloc_new W a), by have := heap_alloc_new (W.alloc a) b; rwa [World.size_alloc] at this⟩
theorem below_row {W X w1 : World} {v : Value} {base e size n : Nat} {xs : List Value} (h : Below W.heap.size W X) (ho : X.ownsRow base e size v n xs) (hb : W.heap.size ≤ base) (hg : X.grownBy w1 v.ownBlock) : Below W.heap.size W w1 :=
  h.grown hg h.size (fun k hk => Nat.le_trans hb (ho.lt k hk).1)
theorem own_of_heap {w w' : World} {base e size n cap gg : Nat} {xs : List Value} (h : w.ownsRow base e size (.slice (some ⟨gg, 0, none⟩) n cap) n xs) (hb : w'.heap[gg]? = w.heap[gg]?) : w'.ownsRow base e size (.slice (some ⟨gg, 0, none⟩) n cap) n xs := by
  obtain ⟨h1, h2⟩ := h
  rcases h2 with ⟨hv, _⟩ | ⟨g', c', cur, hv, h3, h4, h5⟩
  · cases hv
  · injection hv with hv1 hv2 hv3
    injection hv1 with hv1
    injection hv1 with hv1 _
    subst hv1
    subst hv3
    exact ⟨h1, .inr ⟨_, _, cur, rfl, h3, hb.trans h4, h5⟩⟩

theorem mk_new (W : World) (m : Mk) : MkAt (W.alloc (.cells #[.int .i64 m.s0.lo, .int .i64 m.s0.hi, .int .i64 m.s1.lo, .int .i64 m.s1.hi, .int .i64 m.s2.lo, .int .i64 m.s2.hi, .int .i64 m.s3.lo, .int .i64 m.s3.hi] 62)) W.heap.size 0 m := by
  unfold MkAt; exact ⟨by go_simp, by go_simp, by go_simp, by go_simp, by go_simp, by go_simp, by go_simp, by go_simp⟩
theorem heap_set4 (W : World) (gg p : Nat) (u0 u1 u2 u3 : Value) {k : Nat} (h : ¬ k = gg) : ((((W.setCell ⟨gg, p, none⟩ u0).setCell ⟨gg, p + 1, none⟩ u1).setCell ⟨gg, p + 2, none⟩ u2).setCell ⟨gg, p + 3, none⟩ u3).drew.heap[k]? = W.heap[k]? :=
  (Below.heap_setCell _ _ _ _ h).trans ((Below.heap_setCell _ _ _ _ h).trans ((Below.heap_setCell _ _ _ _ h).trans (Below.heap_setCell _ _ _ _ h)))
/-- A barrel of a row of the call's own is written. -/
theorem brs_set {W : World} {base gg cap q : Nat} {xs : List Br} (h : W.ownsRow base 24 4 (.slice (some ⟨gg, 0, none⟩) xs.length cap) xs.length (cellsB xs)) (hq : q < xs.length) (y : Br) :
    BrsAt ((((W.setCell ⟨gg, q * 4, none⟩ (.int .i64 y.b0)).setCell ⟨gg, q * 4 + 1, none⟩ (.int .i64 y.b1)).setCell ⟨gg, q * 4 + 2, none⟩ (.int .i64 y.b2)).setCell ⟨gg, q * 4 + 3, none⟩ (.int .i64 y.b3)).drew (.slice (some ⟨gg, 0, none⟩) xs.length cap) (xs.set q y) := by
  have hold := brs_of_own rfl h
  refine ⟨_, cap, by rw [List.length_set], fun i x hi => ⟨gg, 0, rfl, ?_⟩⟩
  have hrow : ∀ p : Nat, p < 4 → (∃ v, W.cell? ⟨gg, q * 4 + p, none⟩ = some v) := fun p hp => by
    have h1 := h.cellAt (q * 4 + p) (by omega)
    have h2 : (q * 4 + p) < (cellsB xs).length := by rw [cellsB_length]; omega
    rw [List.getElem?_eq_getElem h2] at h1
    exact ⟨_, h1⟩
  obtain ⟨r0, ra0⟩ := hrow 0 (by omega)
  obtain ⟨r1, ra1⟩ := hrow 1 (by omega)
  obtain ⟨r2, ra2⟩ := hrow 2 (by omega)
  obtain ⟨r3, ra3⟩ := hrow 3 (by omega)
  rw [Nat.add_zero] at ra0
  by_cases e : i = q
  · subst e
    rw [List.getElem?_set_self hq] at hi
    injection hi with hi
    subst hi
    unfold BrAt
    rw [Nat.zero_add]
    exact ⟨by go_simp, by go_simp, by go_simp, by go_simp⟩
  · rw [List.getElem?_set_ne (Ne.symm e)] at hi
    obtain ⟨a', c', hv', hm'⟩ := hold
    injection hv' with hv' _ _
    obtain ⟨b', off', hbo, hc⟩ := hm' i x hi
    rw [← hv'] at hbo
    simp only [Option.some.injEq, Addr.mk.injEq, and_true] at hbo
    obtain ⟨h1, h2⟩ := hbo
    subst h1; subst h2
    have k : ∀ p v, p < 4 → W.cell? ⟨gg, 0 + i * 4 + p, none⟩ = some v → ((((W.setCell ⟨gg, q * 4, none⟩ (.int .i64 y.b0)).setCell ⟨gg, q * 4 + 1, none⟩ (.int .i64 y.b1)).setCell ⟨gg, q * 4 + 2, none⟩ (.int .i64 y.b2)).setCell ⟨gg, q * 4 + 3, none⟩ (.int .i64 y.b3)).drew.cell? ⟨gg, 0 + i * 4 + p, none⟩ = some v := by
      intro p v hp hc
      have z : ∀ (W' : World) (s : Nat) (u : Value), s < 4 → (W'.setCell ⟨gg, q * 4 + s, none⟩ u).cell? ⟨gg, 0 + i * 4 + p, none⟩ = W'.cell? ⟨gg, 0 + i * 4 + p, none⟩ := fun W' s u hs =>
        World.cell?_setCell_other _ _ _ _ (fun he => by injection he with _ he _; omega)
      show ((((W.setCell ⟨gg, q * 4, none⟩ (.int .i64 y.b0)).setCell ⟨gg, q * 4 + 1, none⟩ (.int .i64 y.b1)).setCell ⟨gg, q * 4 + 2, none⟩ (.int .i64 y.b2)).setCell ⟨gg, q * 4 + 3, none⟩ (.int .i64 y.b3)).cell? _ = _
      rw [z _ 3 _ (by omega), z _ 2 _ (by omega), z _ 1 _ (by omega)]
      exact (z W 0 _ (by omega)).trans hc
    obtain ⟨c0, c1, c2, c3⟩ := hc
    exact ⟨k 0 _ (by omega) c0, k 1 _ (by omega) c1, k 2 _ (by omega) c2, k 3 _ (by omega) c3⟩
theorem marks_one {w : World} {b off : Nat} {m : Mk} (h : MkAt w b off m) (c : Nat) : MarksAt w (.slice (some ⟨b, off, none⟩) 1 c) [m] := by
  refine ⟨_, c, rfl, fun i m' hi => ?_⟩
  cases i with
  | zero =>
    simp only [List.getElem?_cons_zero, Option.some.injEq] at hi
    subst hi
    exact ⟨b, off, rfl, by rw [Nat.zero_mul, Nat.add_zero]; exact h⟩
  | succ i => simp at hi
theorem grade_one {m : Mk} {y : Br} (hm : markB m = true) (hy : barB y = true) : gradeR [m] y = if belowB m y = true then (0, 4) else (0, 0) := by
  have h1 : marksB [m] = true := by unfold marksB; rw [List.all_cons, hm]; rfl
  unfold gradeR
  rw [h1, hy, if_pos rfl, if_pos rfl]
  unfold firstOf
  rw [List.findIdx?_cons]
  cases belowB m y <;> rfl

set_option maxRecDepth 100000 in
set_option maxHeartbeats 3200000 in
theorem law17_bad (e0 : Int) (mv : Value) (N : Int) (r : Rl) (ov : Value) (ms : List Mk) (xs : List Br) (k : Int) (w : World) (hms : MarksAt w mv ms) (hlm : ms.length ≤ 140737488351232) (hxs : BrsAt w ov xs) (hlx : xs.length ≤ 140737488351232)
    (he : e0 ≠ 0) (hz : promiseR ms N r xs = (0, 0, e0)) :
    Calls Try.prog 17 #[lotA mv N r ov, .int .i64 k] w fun e w' => e = .returned (.bool true) ∧ Below w.heap.size w w' := by
  have Hz := Lib.hid hz
  have HS := Lib.hid (LotS.start N r hms hxs)
  have hx1 : (e0 == 0) = false := beq_eq_false_iff_ne.2 he
  have hx2 : (e0 != 0) = true := by simpa using he
  clear hz hms hxs
  obtain ⟨g, po, pi, b, fo, fi⟩ := r
  go_enter Try.func17, Try.ntmps17
  go_wp2_with fail
  refine (promise_ex mv ov ms xs N ⟨g, po, pi, b, fo, fi⟩ _ HS.out.2.1 hlm HS.out.2.2.1 hlx Hz.out).mono ?_
  rintro e w1 ⟨rfl, hB1⟩
  have hB := (HS.out.below hB1).2.2.2
  clear hB1 HS
  go_wp2_with fail
  refine (works_is _).mono ?_
  rintro e w5 ⟨rfl, hB6⟩
  have hB7 := below_trans hB hB6
  clear hB hB6
  go_wp2_with fail
  go_ret
  exact ⟨rfl, hB7⟩

set_option maxRecDepth 100000 in
set_option maxHeartbeats 40000000 in
theorem law17_good (i al : Nat) (bm om : Nat) (mc : Nat) (N : Int) (r : Rl) (oa : Option Addr) (oc : Nat) (ms : List Mk) (xs : List Br) (k : Int) (w : World) (hms : MarksAt w (.slice (some ⟨bm, om, none⟩) ms.length mc) ms) (hlm : ms.length ≤ 140737488351232) (hxs : BrsAt w (.slice oa xs.length oc) xs) (hlx : xs.length ≤ 140737488351232)
    (hv : marksB ms = true) (h1 : inB N 1 40 = true) (h2 : ruleB N r = true) (hlN : (xs.length : Int) ≤ N) (hbar : ∀ x ∈ xs, barB x = true)
    (hz : promiseR ms N r xs = ((i : Int), (al : Int), 0)) (hi : i < ms.length) (hal : al ≤ xs.length) (hk1 : keepsB N r xs.length al = true) (hk2 : al < xs.length → keepsB N r xs.length ((al + 1 : Nat) : Int) = false)
    (hfew : ∀ (j : Nat) (h : j < ms.length), j ≤ i → (belowOf ms[j] xs ≤ al ↔ j = i))
    (hbet : ∀ (h : i < ms.length) (k : Nat), ∃ i' : Nat, i' ≤ i ∧ promiseR ms N r (xs.set k (lows ms[i])) = ((i' : Int), (al : Int), 0)) (hmc : ms.length ≤ mc) (kl : -9223372036854775808 ≤ k) (ku : k ≤ 9223372036854775807) :
    Calls Try.prog 17 #[lotA (.slice (some ⟨bm, om, none⟩) ms.length mc) N r (.slice oa xs.length oc), .int .i64 k] w fun e w' => e = .returned (.bool true) ∧ Below w.heap.size w w' := by
  obtain ⟨g1, g2⟩ := inB_true h1
  have hl5 : ms.length ≤ 5 := by
    unfold marksB at hv
    rw [Bool.and_eq_true] at hv
    have := (inB_true hv.1).2
    omega
  have Hz := Lib.hid hz
  have H1 := Lib.hid h1
  have H2 := Lib.hid h2
  have Hv := Lib.hid hv
  have Hbar := Lib.hid hbar
  have Hfew := Lib.hid hfew
  have Hbet := Lib.hid hbet
  have HK1 : Hid (keepsR N r xs.length al = (true, 0)) := by
    show _ = _
    unfold keepsR
    rw [h1, h2, if_pos rfl, if_pos rfl, inB_mk ⟨by omega, by omega⟩, inB_mk ⟨by omega, by omega⟩, hk1]; rfl
  have HK2 : Hid (al < xs.length → keepsR N r xs.length ((al : Int) + 1) = (false, 0)) := by
    show _ → _
    intro h
    have := hk2 h
    rw [show ((al + 1 : Nat) : Int) = (al : Int) + 1 by omega] at this
    unfold keepsR
    rw [h1, h2, if_pos rfl, if_pos rfl, inB_mk ⟨by omega, by omega⟩, inB_mk ⟨by omega, by omega⟩, this]; rfl
  have HS := Lib.hid (LotS.start N r hms hxs)
  clear hz h1 h2 hv hbar hfew hbet hk1 hk2 hms hxs
  obtain ⟨g, po, pi, b, fo, fi⟩ := r
  go_enter Try.func17, Try.ntmps17
  go_wp2_with fail
  refine (promise_ex (.slice (some ⟨bm, om, none⟩) ms.length mc) (.slice oa xs.length oc) ms xs N ⟨g, po, pi, b, fo, fi⟩ _ HS.out.2.1 hlm HS.out.2.2.1 hlx Hz.out).mono ?_
  rintro e w1 ⟨rfl, hB1⟩
  have HS1 := Lib.hid (HS.out.below hB1)
  obtain ⟨⟨c0, c1, c2, c3, c4, c5, c6, c7, c8⟩, _⟩ := HS1.out
  have lc := HS1.out.1.lt
  clear hB1 HS
  go_wp2_with fail
  refine (ruledLaw_is N ⟨g, po, pi, b, fo, fi⟩ _ H1.out H2.out).mono ?_
  rintro e w2 ⟨rfl, hB2⟩
  have HS2 := Lib.hid (HS1.out.below hB2)
  clear hB2 HS1 c0 c1 c2 c3 c4 c5 c6 c7 c8 lc
  obtain ⟨⟨c0, c1, c2, c3, c4, c5, c6, c7, c8⟩, _⟩ := HS2.out
  have lc := HS2.out.1.lt
  have ii := inB_mk (n := (i : Int)) (lo := 0) (hi := (ms.length : Int) - 1) ⟨by omega, by omega⟩
  have ia := inB_mk (n := (al : Int)) (lo := 0) (hi := (xs.length : Int)) ⟨by omega, by omega⟩
  have Hii := Lib.hid ii
  have Hia := Lib.hid ia
  clear ii ia
  go_wp2_with fail
  refine (in_is _ _ _ _ Hii.out).mono ?_
  rintro e w3 ⟨rfl, rfl⟩
  go_wp2_with fail
  refine (in_is _ _ _ _ Hia.out).mono ?_
  rintro e w3 ⟨rfl, rfl⟩
  go_upto_region 6 with fail
  have y0 := cell_regrown c0
  have y1 := cell_regrown c1
  have y2 := cell_regrown c2
  have y3 := cell_regrown c3
  have y4 := cell_regrown c4
  have y5 := cell_regrown c5
  have y6 := cell_regrown c6
  have y7 := cell_regrown c7
  have y8 := cell_regrown c8
  have cO : ∀ d os, Calls Try.prog 44 #[.int .i64 (xs.length : Int), .int .i64 (al : Int)] (Sort.grow (redrawn w2 d) os) fun e w'' => e = .returned (planV xs.length al) ∧ ∃ p : Regrown, w'' = Sort.grow (redrawn w2 p.d) p.os := fun d os => Calls.regrown_of (opens_is _ _ _)
  have cK : ∀ d os, Calls Try.prog 24 #[.int .i64 N, .agg #[.int .i64 g, .int .i64 po, .int .i64 pi, .int .i64 b, .int .i64 fo, .int .i64 fi], planV xs.length al] (Sort.grow (redrawn w2 d) os) fun e w'' => e = .returned (keepsV (true, 0)) ∧ ∃ p : Regrown, w'' = Sort.grow (redrawn w2 p.d) p.os := fun d os => Calls.regrown_of (keeps_ex N xs.length al ⟨g, po, pi, b, fo, fi⟩ _ HK1.out)
  refine wp_region_quiet_below (by kernel_rfl) (by kernel_rfl) ?_
  repeat (first | go_big_quiet_step (first | with_reducible exact cO _ _ | with_reducible exact cK _ _) | quiet_step (first | with_reducible exact cO _ _ | with_reducible exact cK _ _))
  refine wpQuiet_nil ?_
  intro _ hw'
  obtain ⟨⟨dq, osq⟩, hw''⟩ := hw'
  subst hw''
  have hB3 := below_regrown w2 dq osq
  obtain ⟨w3, hw3⟩ : ∃ W, Sort.grow (redrawn w2 dq) osq = W := ⟨_, rfl⟩
  rw [hw3] at hB3 ⊢
  have HS3 := Lib.hid (HS2.out.below hB3)
  clear hw3 hB3 cO cK y0 y1 y2 y3 y4 y5 y6 y7 y8 HS2 c0 c1 c2 c3 c4 c5 c6 c7 c8 lc HK1
  obtain ⟨⟨c0, c1, c2, c3, c4, c5, c6, c7, c8⟩, _⟩ := HS3.out
  have lc := HS3.out.1.lt
  go_upto_if 110 with fail
  go_cut [] (fun wx => Below w3.heap.size w3 wx)
  case first => as_aux_lemma =>
    by_cases hlt : al < xs.length
    · have hK := Lib.hid (HK2.out hlt)
      have y0 := cell_regrown c0
      have y1 := cell_regrown c1
      have y2 := cell_regrown c2
      have y3 := cell_regrown c3
      have y4 := cell_regrown c4
      have y5 := cell_regrown c5
      have y6 := cell_regrown c6
      have y7 := cell_regrown c7
      have y8 := cell_regrown c8
      have hw1 : IntKind.i64.wrap ((al : Int) + 1) = al + 1 := IntWalk.i64_in _ (by omega)
      have cO : ∀ d os, Calls Try.prog 44 #[.int .i64 (xs.length : Int), .int .i64 ((al : Int) + 1)] (Sort.grow (redrawn w3 d) os) fun e w'' => e = .returned (planV xs.length ((al : Int) + 1)) ∧ ∃ p : Regrown, w'' = Sort.grow (redrawn w3 p.d) p.os := fun d os => Calls.regrown_of (opens_is _ _ _)
      have cK : ∀ d os, Calls Try.prog 24 #[.int .i64 N, .agg #[.int .i64 g, .int .i64 po, .int .i64 pi, .int .i64 b, .int .i64 fo, .int .i64 fi], planV xs.length ((al : Int) + 1)] (Sort.grow (redrawn w3 d) os) fun e w'' => e = .returned (keepsV (false, 0)) ∧ ∃ p : Regrown, w'' = Sort.grow (redrawn w3 p.d) p.os := fun d os => Calls.regrown_of (keeps_ex N xs.length ((al : Int) + 1) ⟨g, po, pi, b, fo, fi⟩ _ hK.out)
      go_upto_region 10 with fail
      refine wp_region_quiet_below (by kernel_rfl) (by kernel_rfl) ?_
      repeat (first | go_big_quiet_step (first | with_reducible exact cO _ _ | with_reducible exact cK _ _) | quiet_step (first | with_reducible exact cO _ _ | with_reducible exact cK _ _))
      refine wpQuiet_nil ?_
      intro _ hw'
      obtain ⟨⟨dq, osq⟩, hw''⟩ := hw'
      subst hw''
      have hB4 := below_regrown w3 dq osq
      clear cO cK y0 y1 y2 y3 y4 y5 y6 y7 y8
      go_wp2_with fail
      go_meet
      case rel => exact hB4
    · go_wp2_with fail
      go_meet
      case rel => exact Below.refl _ _
  case rest =>
    have HS4 := Lib.hid (HS3.out.below hcut)
    clear HS3 hcut HK2 c0 c1 c2 c3 c4 c5 c6 c7 c8 lc
    go_wp2_with fail
    go_loopw [12] (fun s12 wr => ∃ j : Nat, j ≤ i + 1 ∧ s12 = .int .i64 j ∧ Below wc.heap.size wc wr) (fun s12 _ => i + 1 - (intOf s12).toNat)
    case atStart => exact ⟨0, by omega, rfl, Below.refl _ _⟩
    case round =>
      obtain ⟨j, hj, rfl, hBr⟩ := hrel
      generalize wr = w5 at *
      have HS5 := Lib.hid (HS4.out.below hBr)
      obtain ⟨⟨c0, c1, c2, c3, c4, c5, c6, c7, c8⟩, _⟩ := HS5.out
      have lc := HS5.out.1.lt
      by_cases hji : j ≤ i
      · as_aux_lemma =>
        have hjl : j < ms.length := by omega
        have hfj := Hfew.out j hjl hji
        have hmj : markB ms[j] = true := by
          have := Hv.out
          unfold marksB at this
          rw [Bool.and_eq_true] at this
          exact List.all_eq_true.1 this.2 _ (List.getElem_mem hjl)
        have hmk : MkAt w5 bm (om + j * 8) ms[j] := by
          obtain ⟨a', c', hv', hm'⟩ := HS5.out.2.1
          injection hv' with hv' _ _
          obtain ⟨b', off', hbo, hc⟩ := hm' j ms[j] (List.getElem?_eq_getElem hjl)
          rw [← hv'] at hbo
          injection hbo with hbo
          injection hbo with h1 h2
          subst h1; subst h2
          exact hc
        generalize ms[j] = m at hfj hmj hmk
        have Hfj := Lib.hid hfj
        have Hmj := Lib.hid hmj
        have Hmk := Lib.hid hmk
        clear hfj hmj hmk
        go_wp2_with fail
        go_loopw [13, 14] (fun s13 s14 wq => ∃ n : Nat, n ≤ xs.length ∧ s14 = .int .i64 n ∧ s13 = .int .i64 (belowOf m (xs.take n) : Nat) ∧ Below w5.heap.size w5 wq) (fun _ s14 _ => xs.length - (intOf s14).toNat)
        case atStart => exact ⟨0, by omega, rfl, by simp [belowOf], Below.refl _ _⟩
        case round =>
          obtain ⟨n, hn, rfl, rfl, hBq⟩ := hrel
          have HS6 := Lib.hid (HS5.out.below hBq)
          have Hmk2 := Lib.hid (Hmk.out.kept (hBq.block _ Hmk.out.lt))
          clear c0 c1 c2 c3 c4 c5 c6 c7 c8 lc
          obtain ⟨⟨c0, c1, c2, c3, c4, c5, c6, c7, c8⟩, _⟩ := HS6.out
          have lc := HS6.out.1.lt
          by_cases hnl : n < xs.length
          · have hn1 : (n : Int) < (xs.length : Int) := by omega
            have hn0 : (0 : Int) ≤ (n : Int) := by omega
            have hj0 : (0 : Int) ≤ (j : Int) := by omega
            have hj1 : (j : Int) + 1 ≤ (mc : Int) := by omega
            have hj2 : (j : Int) ≤ (j : Int) + 1 := by omega
            have hw1 : IntKind.i64.wrap ((j : Int) + 1) = j + 1 := IntWalk.i64_in _ (by omega)
            obtain ⟨bo, oo, rfl, hbr⟩ : ∃ bo oo, oa = some ⟨bo, oo, none⟩ ∧ BrAt wr bo (oo + n * 4) xs[n] := by
              obtain ⟨a', c', hv', hm'⟩ := HS6.out.2.2.1
              injection hv' with hv' _ _
              obtain ⟨b', off', hbo, hc⟩ := hm' n xs[n] (List.getElem?_eq_getElem hnl)
              exact ⟨b', off', hv'.trans hbo, hc⟩
            have hbq := Hbar.out _ (List.getElem_mem hnl)
            have htk : belowOf m (xs.take (n + 1)) = belowOf m (xs.take n) + if belowB m xs[n] = true then 1 else 0 := by
              unfold belowOf
              rw [List.take_succ_eq_append_getElem hnl, List.filter_append, List.length_append, List.filter_cons]
              simp only [List.filter_nil]
              split <;> simp
            have htl : belowOf m (xs.take n) ≤ n := by
              unfold belowOf
              have := List.length_filter_le (fun x => belowB m x) (xs.take n)
              have := List.length_take_le n xs
              omega
            generalize xs[n] = y at hbr hbq htk
            obtain ⟨x0, x1, x2, x3⟩ := hbr
            have y0 := cell_regrown c0
            have y8 := cell_regrown c8
            replace x0 := cell_regrown x0
            replace x1 := cell_regrown x1
            replace x2 := cell_regrown x2
            replace x3 := cell_regrown x3
            have Htk := Lib.hid htk
            have Hbq := Lib.hid hbq
            clear htk hbq
            have hgr := grade_one Hmj.out Hbq.out
            cases hbm : belowB m y with
            | true =>
              rw [hbm, if_pos rfl] at hgr
              have Htk2 : Hid (belowOf m (xs.take (n + 1)) = belowOf m (xs.take n) + 1) := by show _ = _; rw [Htk.out, hbm, if_pos rfl]
              have cG : ∀ d os, Calls Try.prog 19 #[.slice (some ⟨bm, om + j * 8, none⟩) 1 (mc - j), .agg #[.int .i64 y.b0, .int .i64 y.b1, .int .i64 y.b2, .int .i64 y.b3]] (Sort.grow (redrawn wr d) os) fun e w'' => e = .returned (gradeV (0, 4)) ∧ ∃ p : Regrown, w'' = Sort.grow (redrawn wr p.d) p.os := fun d os =>
                Calls.regrown_of (grade_ex _ [m] y _ (marks_one (Hmk2.out.kept ((below_regrown wr d os).block _ Hmk2.out.lt)) _) (by simp) hgr)
              clear hgr hbm
              go_wp2_with fail
              refine wp_region_quiet_below (by kernel_rfl) (by kernel_rfl) ?_
              repeat (first | go_big_quiet_step (exact cG _ _) | quiet_step (exact cG _ _))
              refine wpQuiet_nil ?_
              intro _ hw'
              obtain ⟨⟨dq, osq⟩, hw''⟩ := hw'
              subst hw''
              have hB6 := below_trans hBq (below_regrown wr dq osq)
              clear cG y0 y8 x0 x1 x2 x3
              go_wp2_with fail
              go_roundw
              case rel => exact ⟨n + 1, by omega, by go_num, by rw [Htk2.out]; go_num, hB6⟩
              case measure => simp [intOf] <;> omega
            | false =>
              rw [hbm, if_neg (by simp)] at hgr
              have Htk2 : Hid (belowOf m (xs.take (n + 1)) = belowOf m (xs.take n)) := by show _ = _; rw [Htk.out, hbm, if_neg (by simp)]; rfl
              have cG : ∀ d os, Calls Try.prog 19 #[.slice (some ⟨bm, om + j * 8, none⟩) 1 (mc - j), .agg #[.int .i64 y.b0, .int .i64 y.b1, .int .i64 y.b2, .int .i64 y.b3]] (Sort.grow (redrawn wr d) os) fun e w'' => e = .returned (gradeV (0, 0)) ∧ ∃ p : Regrown, w'' = Sort.grow (redrawn wr p.d) p.os := fun d os =>
                Calls.regrown_of (grade_ex _ [m] y _ (marks_one (Hmk2.out.kept ((below_regrown wr d os).block _ Hmk2.out.lt)) _) (by simp) hgr)
              clear hgr hbm
              go_wp2_with fail
              refine wp_region_quiet_below (by kernel_rfl) (by kernel_rfl) ?_
              repeat (first | go_big_quiet_step (exact cG _ _) | quiet_step (exact cG _ _))
              refine wpQuiet_nil ?_
              intro _ hw'
              obtain ⟨⟨dq, osq⟩, hw''⟩ := hw'
              subst hw''
              have hB6 := below_trans hBq (below_regrown wr dq osq)
              clear cG y0 y8 x0 x1 x2 x3
              go_wp2_with fail
              go_roundw
              case rel => exact ⟨n + 1, by omega, by go_num, by rw [Htk2.out], hB6⟩
              case measure => simp [intOf] <;> omega
          · obtain rfl : n = xs.length := by omega
            rw [List.take_length]
            have hle : belowOf m xs ≤ xs.length := by unfold belowOf; exact List.length_filter_le _ _
            have hB6 := below_trans hBr hBq
            by_cases hjq : j = i
            · have h1 : belowOf m xs ≤ al := Hfj.out.2 hjq
              subst hjq
              go_wp2_with fail
              go_roundw
              case rel => exact ⟨j + 1, by omega, by go_num, hB6⟩
              case measure => simp [intOf] <;> omega
            · have h1 : ¬ belowOf m xs ≤ al := fun h => hjq (Hfj.out.1 h)
              generalize belowOf m xs = bb at *
              have h2 : ((j : Int) == (i : Int)) = false := by simp; omega
              have h3 : decide ((bb : Int) ≤ (al : Int)) = false := by simp; omega
              have h4 : decide (bb ≤ al) = false := by simp; omega
              have h5 : (j == i) = false := by simp; omega
              go_wp2_with fail
              go_roundw
              case rel => exact ⟨j + 1, by omega, by go_num, hB6⟩
              case measure => simp [intOf] <;> omega
      · obtain rfl : j = i + 1 := by omega
        by_cases hx0 : xs.length = 0
        · go_wp2_with fail
          refine (works_is _).mono ?_
          rintro e w6 ⟨rfl, hB6⟩
          have hB7 := below_trans HS5.out.2.2.2 hB6
          clear hB6
          go_wp2_with fail
          go_ret
          exact ⟨rfl, hB7⟩
        · have hx2 : 0 < xs.length := by omega
          have hx1 : ((xs.length : Int) == 0) = false := beq_eq_false_iff_ne.2 (by omega)
          obtain ⟨bo, oo, rfl, _⟩ : ∃ bo oo, oa = some ⟨bo, oo, none⟩ ∧ BrAt w5 bo (oo + 0 * 4) xs[0] := by
            obtain ⟨a', c', hv', hm'⟩ := HS5.out.2.2.1
            injection hv' with hv' _ _
            obtain ⟨b', off', hbo, hc⟩ := hm' 0 xs[0] (List.getElem?_eq_getElem (by omega))
            exact ⟨b', off', hv'.trans hbo, hc⟩
          obtain ⟨i0, hi0, hz0, hz1, hz2⟩ := info_parts info24
          have AL := alloc_at w5 (.cells #[.slice (some ⟨bm, om, none⟩) ms.length mc, .int .i64 N, .int .i64 g, .int .i64 po, .int .i64 pi, .int .i64 b, .int .i64 fo, .int .i64 fi, .slice (some ⟨bo, oo, none⟩) xs.length oc] 67) (.cells #[] 24)
          have NN := own_nil24 AL.2 (Nat.le_refl _)
          have BB : Below w5.heap.size w5 ((w5.alloc (.cells #[.slice (some ⟨bm, om, none⟩) ms.length mc, .int .i64 N, .int .i64 g, .int .i64 po, .int .i64 pi, .int .i64 b, .int .i64 fo, .int .i64 fi, .slice (some ⟨bo, oo, none⟩) xs.length oc] 67)).alloc (.cells #[] 24)) := (below_alloc _).alloc (by simp) _
          have KK := (HS5.out.2.2.1.below BB).news
          have LL : LotAt ((w5.alloc (.cells #[.slice (some ⟨bm, om, none⟩) ms.length mc, .int .i64 N, .int .i64 g, .int .i64 po, .int .i64 pi, .int .i64 b, .int .i64 fo, .int .i64 fi, .slice (some ⟨bo, oo, none⟩) xs.length oc] 67)).alloc (.cells #[] 24)) w5.heap.size (.slice (some ⟨bm, om, none⟩) ms.length mc) N ⟨g, po, pi, b, fo, fi⟩ (.slice (some ⟨bo, oo, none⟩) xs.length oc) := by
            unfold LotAt; exact ⟨by go_simp, by go_simp, by go_simp, by go_simp, by go_simp, by go_simp, by go_simp, by go_simp, by go_simp⟩
          have FF : ((w5.alloc (.cells #[.slice (some ⟨bm, om, none⟩) ms.length mc, .int .i64 N, .int .i64 g, .int .i64 po, .int .i64 pi, .int .i64 b, .int .i64 fo, .int .i64 fi, .slice (some ⟨bo, oo, none⟩) xs.length oc] 67)).alloc (.cells #[] 24)).frozen? ⟨w5.heap.size, 8, none⟩ = false := by go_simp
          have hcl := cellsB_length xs
          have hco := cellsB_one xs
          have HK := Lib.hid KK
          have HL := Lib.hid LL
          clear KK LL
          go_wp2_with (at_builtin; refine wpList_append_lies _ rfl _ _ 58 rfl (w5.heap.size + 1) 24 i0 _ 4 32 Try.underlying58 hi0 hz0 hz1 hz2 rfl (by omega) _ 0 [] rfl NN ⟨bo, oo, none⟩ xs.length oc (cellsB xs) rfl hcl HK.out hco (by omega) (by unfold maxLen; omega) (by omega) (by simp) _ rfl ?_)
          intro gg cap1 w7 hown hgrow hat hlt
          have hgb : w5.heap.size + 1 ≤ gg := (hown.lt gg rfl).1
          have hb7 := below_row BB NN (by omega) hgrow
          have hY : ((w5.alloc (.cells #[.slice (some ⟨bm, om, none⟩) ms.length mc, .int .i64 N, .int .i64 g, .int .i64 po, .int .i64 pi, .int .i64 b, .int .i64 fo, .int .i64 fi, .slice (some ⟨bo, oo, none⟩) xs.length oc] 67)).alloc (.cells #[] 24)).heap.size = w5.heap.size + 2 := by simp
          have hYb := hgrow.block w5.heap.size (by omega) (by simp [Value.ownBlock])
          have hL7 := HL.out.kept hYb
          have HL7 := Lib.hid hL7
          have hF7 := (World.frozen?_of_block (a := ⟨w5.heap.size, 8, none⟩) hYb).trans FF
          obtain ⟨l0, l1, l2, l3, l4, l5, l6, l7, l8⟩ := hL7
          have hs7 : w5.heap.size < w7.heap.size := World.block_lt_of_cell? _ _ l0
          obtain ⟨W8, hW8⟩ : ∃ W, w7.setCell ⟨w5.heap.size, 8, none⟩ (.slice (some ⟨gg, 0, none⟩) xs.length cap1) = W := ⟨_, rfl⟩
          have hL8 : LotAt W8 w5.heap.size (.slice (some ⟨bm, om, none⟩) ms.length mc) N ⟨g, po, pi, b, fo, fi⟩ (.slice (some ⟨gg, 0, none⟩) xs.length cap1) := by
            rw [← hW8]; exact HL7.out.set8 _
          have hO8 : W8.ownsRow (w5.heap.size + 1) 24 4 (.slice (some ⟨gg, 0, none⟩) xs.length cap1) xs.length (cellsB xs) := by
            rw [← hW8]; exact own_of_heap hown (Below.heap_setCell _ _ _ _ (by simp; omega))
          have hb8 : Below w5.heap.size w5 W8 := by rw [← hW8]; exact hb7.setCell (Nat.le_refl _) _
          have HL8 := Lib.hid hL8
          have HB8 := Lib.hid hb8
          have HO8 := Lib.hid hO8
          have HS8 := Lib.hid (HS5.out.below hb8)
          clear hL8 hO8 hb8 hb7 HL HK FF BB NN AL hgrow hat hown hYb hcl hco
          go_upto_region 29 with fail
          have hmk : MkAt W8 bm (om + i * 8) ms[i] := by
            obtain ⟨a', c', hv', hm'⟩ := HS8.out.2.1
            injection hv' with hv' _ _
            obtain ⟨b', off', hbo, hc⟩ := hm' i ms[i] (List.getElem?_eq_getElem hi)
            rw [← hv'] at hbo
            injection hbo with hbo
            injection hbo with h1 h2
            subst h1; subst h2
            exact hc
          have hbt := Hbet.out hi
          generalize ms[i] = m at hmk hbt
          have Hmk := Lib.hid hmk
          have Hbt := Lib.hid hbt
          clear hmk hbt hW8 l0 l1 l2 l3 l4 l5 l6 l7 l8 hF7 hs7 c0 c1 c2 c3 c4 c5 c6 c7 c8 lc
          obtain ⟨m0, m1, m2, m3, m4, m5, m6, m7⟩ := Hmk.out
          obtain ⟨⟨c0, c1, c2, c3, c4, c5, c6, c7, c8⟩, _⟩ := HS8.out
          have lc := HS8.out.1.lt
          have hii0 : (0 : Int) ≤ (i : Int) := by omega
          have hii1 : (i : Int) < (ms.length : Int) := by omega
          go_upto_region 30 with fail
          have HL9 := Lib.hid (HL8.out.kept ((below_alloc (w := W8) (.cells #[.int .i64 m.s0.lo, .int .i64 m.s0.hi, .int .i64 m.s1.lo, .int .i64 m.s1.hi, .int .i64 m.s2.lo, .int .i64 m.s2.hi, .int .i64 m.s3.lo, .int .i64 m.s3.hi] 62)).block _ HL8.out.lt))
          have HO9 := Lib.hid (HO8.out.alloc (.cells #[.int .i64 m.s0.lo, .int .i64 m.s0.hi, .int .i64 m.s1.lo, .int .i64 m.s1.hi, .int .i64 m.s2.lo, .int .i64 m.s2.hi, .int .i64 m.s3.lo, .int .i64 m.s3.hi] 62))
          have HS9 := Lib.hid (HS8.out.below (below_alloc (.cells #[.int .i64 m.s0.lo, .int .i64 m.s0.hi, .int .i64 m.s1.lo, .int .i64 m.s1.hi, .int .i64 m.s2.lo, .int .i64 m.s2.hi, .int .i64 m.s3.lo, .int .i64 m.s3.hi] 62)))
          have hM9 := mk_new W8 m
          have HB9 := Lib.hid (below_more HB8.out (.cells #[.int .i64 m.s0.lo, .int .i64 m.s0.hi, .int .i64 m.s1.lo, .int .i64 m.s1.hi, .int .i64 m.s2.lo, .int .i64 m.s2.hi, .int .i64 m.s3.lo, .int .i64 m.s3.hi] 62))
          clear HB8
          have hgg := (HO8.out.lt gg rfl).2
          have hly := HL8.out.lt
          generalize W8.alloc (.cells #[.int .i64 m.s0.lo, .int .i64 m.s0.hi, .int .i64 m.s1.lo, .int .i64 m.s1.hi, .int .i64 m.s2.lo, .int .i64 m.s2.hi, .int .i64 m.s3.lo, .int .i64 m.s3.hi] 62) = W9 at *
          generalize hMb : W8.heap.size = Mb at *
          generalize hYb : w5.heap.size = Y at *
          clear m0 m1 m2 m3 m4 m5 m6 m7 c0 c1 c2 c3 c4 c5 c6 c7 c8 lc Hmk HL8 HO8 HS8
          obtain ⟨e0, e1, e2, e3, e4, e5, e6, e7⟩ := hM9
          obtain ⟨l0, l1, l2, l3, l4, l5, l6, l7, l8⟩ := HL9.out
          have t0 := Int.emod_nonneg k (show (xs.length : Int) ≠ 0 by omega)
          have t1 := Int.emod_lt_of_pos k (show 0 < (xs.length : Int) by omega)
          obtain ⟨q, hq⟩ : ∃ q : Nat, k % (xs.length : Int) = q := ⟨_, (Int.toNat_of_nonneg t0).symm⟩
          rw [hq] at t0 t1
          have Hq := Lib.hid hq
          have hql : q < xs.length := by omega
          have hrow : ∀ p : Nat, p < 4 → (∃ v, W9.cell? ⟨gg, q * 4 + p, none⟩ = some v) ∧ W9.frozen? ⟨gg, q * 4 + p, none⟩ = false := fun p hp => by
            have h1 := HO9.out.cellAt (q * 4 + p) (by omega)
            have h2 : (q * 4 + p) < (cellsB xs).length := by rw [cellsB_length]; omega
            rw [List.getElem?_eq_getElem h2] at h1
            exact ⟨⟨_, h1⟩, HO9.out.frozenAt _⟩
          obtain ⟨⟨r0, ra0⟩, rf0⟩ := hrow 0 (by omega)
          obtain ⟨⟨r1, ra1⟩, rf1⟩ := hrow 1 (by omega)
          obtain ⟨⟨r2, ra2⟩, rf2⟩ := hrow 2 (by omega)
          obtain ⟨⟨r3, ra3⟩, rf3⟩ := hrow 3 (by omega)
          rw [Nat.add_zero] at ra0 rf0
          have hn1 : ¬ Y = gg := by omega
          have hn2 : ¬ Mb = gg := by omega
          have hn3 : ¬ gg = Y := by omega
          have hn4 : ¬ gg = Mb := by omega
          clear hq hrow
          go_region_held3 (fun w' => w'.cell? ⟨Y, 8, none⟩ = some (.slice (some ⟨gg, 0, none⟩) xs.length cap1) ∧ w'.cell? ⟨Mb, 0, none⟩ = some (.int .i64 m.s0.lo) ∧ w'.cell? ⟨Mb, 2, none⟩ = some (.int .i64 m.s1.lo) ∧ w'.cell? ⟨Mb, 4, none⟩ = some (.int .i64 m.s2.lo) ∧ w'.cell? ⟨Mb, 6, none⟩ = some (.int .i64 m.s3.lo))
            (first
              | exact ⟨l8, e0, e2, e4, e6⟩
              | go_keep)
            (first
              | (go_at_call 33; (with_reducible refine (mod_is k xs.length _ kl ku (by omega) (by omega)).mono ?_); rintro e wm ⟨rfl, rfl⟩; rw [Hq.out]))
          clear l0 l1 l2 l3 l4 l5 l6 l7 l8 e0 e1 e2 e3 e4 e5 e6 e7 ra0 ra1 ra2 ra3 rf0 rf1 rf2 rf3 hn2 hn4
          have HX := Lib.hid (brs_set HO9.out hql (lows m))
          have hL10 := HL9.out.kept (heap_set4 W9 gg (q * 4) (.int .i64 m.s0.lo) (.int .i64 m.s1.lo) (.int .i64 m.s2.lo) (.int .i64 m.s3.lo) hn1)
          have hb10 : Below Y w5 ((((W9.setCell ⟨gg, q * 4, none⟩ (.int .i64 m.s0.lo)).setCell ⟨gg, q * 4 + 1, none⟩ (.int .i64 m.s1.lo)).setCell ⟨gg, q * 4 + 2, none⟩ (.int .i64 m.s2.lo)).setCell ⟨gg, q * 4 + 3, none⟩ (.int .i64 m.s3.lo)).drew :=
            ((((HB9.out.setCell (by simp; omega) _).setCell (by simp; omega) _).setCell (by simp; omega) _).setCell (by simp; omega) _).drew
          subst hYb
          have HS10 := Lib.hid (HS5.out.below hb10)
          obtain ⟨W10, hW10⟩ : ∃ W, ((((W9.setCell ⟨gg, q * 4, none⟩ (.int .i64 m.s0.lo)).setCell ⟨gg, q * 4 + 1, none⟩ (.int .i64 m.s1.lo)).setCell ⟨gg, q * 4 + 2, none⟩ (.int .i64 m.s2.lo)).setCell ⟨gg, q * 4 + 3, none⟩ (.int .i64 m.s3.lo)).drew = W := ⟨_, rfl⟩
          have hX : BrsAt W10 (.slice (some ⟨gg, 0, none⟩) xs.length cap1) (xs.set q (lows m)) := by rw [← hW10]; exact HX.out
          have hHx := Lib.hid hX
          rw [hW10] at HS10 hL10 ⊢
          clear hX HX hW10 hb10 HL9 HO9 HS9 HB9
          obtain ⟨l0, l1, l2, l3, l4, l5, l6, l7, l8⟩ := hL10
          have ly : w5.heap.size < W10.heap.size := World.block_lt_of_cell? _ _ l0
          obtain ⟨i', hi', hpr⟩ := Hbt.out q
          have Hpr := Lib.hid hpr
          clear hpr
          go_wp2_with fail
          refine (promise_ex (.slice (some ⟨bm, om, none⟩) ms.length mc) (.slice (some ⟨gg, 0, none⟩) xs.length cap1) ms (xs.set q (lows m)) N ⟨g, po, pi, b, fo, fi⟩ _ HS10.out.2.1 hlm hHx.out (by rw [List.length_set]; exact hlx) Hpr.out).mono ?_
          rintro e wf ⟨rfl, hBf⟩
          have hB11 := below_trans HS10.out.2.2.2 hBf
          clear hBf HS10 l0 l1 l2 l3 l4 l5 l6 l7 l8 ly
          go_wp2_with fail
          refine (works_is _).mono ?_
          rintro e wh ⟨rfl, hBh⟩
          have hB12 := below_trans hB11 hBh
          clear hB11 hBh
          go_wp2_with fail
          go_ret
          exact ⟨rfl, hB12⟩

end Go.Proofs.Ythpllmefbhjmmaa
