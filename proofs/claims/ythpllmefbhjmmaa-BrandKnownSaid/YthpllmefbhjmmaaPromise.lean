/-
  'Promise': the brand that a lot is promised.
-/
import Derived.Test.YthpllmefbhjmmaaGrade
import Derived.Test.YthpllmefbhjmmaaFewest
namespace Go.Proofs.Ythpllmefbhjmmaa
open Go.RowKit Go.Shelf Go.Maps Plain
attribute [local go_sem] Oper.semAt_some

/-- A slice of barrels. -/
def BrsAt (w : World) (v : Value) (xs : List Br) : Prop :=
  ∃ a cap, v = .slice a xs.length cap ∧ ∀ i x, xs[i]? = some x → ∃ b off, a = some ⟨b, off, none⟩ ∧ BrAt w b (off + i * 4) x
theorem BrsAt.below {w w' : World} {v : Value} {xs : List Br} (h : BrsAt w v xs) (hB : Below w.heap.size w w') : BrsAt w' v xs := by
  obtain ⟨a, cap, hv, hm⟩ := h
  refine ⟨a, cap, hv, fun i x hi => ?_⟩
  obtain ⟨b, off, ha, hc⟩ := hm i x hi
  exact ⟨b, off, ha, hc.kept (hB.block b hc.lt)⟩

/-- The greatest Allow of a plan that opens n and keeps the rule, among these plans; -1: none. -/
def allowFold (N : Int) (r : Rl) (n : Nat) (l : List (Nat × Nat)) : Int :=
  l.foldl (fun acc x => if (x.1 == n) && keepsB N r (x.1 : Int) (x.2 : Int) then (x.2 : Int) else acc) (-1)
/-- How many barrels are below a brand. -/
def belowOf (m : Mk) (xs : List Br) : Nat := (xs.filter fun x => belowB m x).length
/-- The first brand of which at most so many are below. -/
def promised (al : Int) (ms : List Mk) (xs : List Br) : Option Nat := ms.findIdx? fun m => decide ((belowOf m xs : Int) ≤ al)
def okOpened (N : Int) (xs : List Br) : Bool := decide ((xs.length : Int) ≤ N) && xs.all barB

def promFin (al : Int) : Option Nat → Int × Int × Int
  | some i => ((i : Int), al, 0)
  | none => (0, 0, 4)

/-- What 'Promise' answers. -/
def promiseR (ms : List Mk) (N : Int) (r : Rl) (xs : List Br) : Int × Int × Int :=
  if marksB ms = true then
    if inB N 1 40 = true then
      if ruleB N r = true then
        if okOpened N xs = true then
          promFin (allowFold N r xs.length (rows (N.toNat + 1))) (promised (allowFold N r xs.length (rows (N.toNat + 1))) ms xs)
        else (0, 0, 73)
      else (0, 0, 71)
    else (0, 0, 7)
  else (0, 0, 70)

abbrev promV (x : Int × Int × Int) : Value := .tuple #[.int .i64 x.1, .int .i64 x.2.1, .int .i64 x.2.2]

/-- The three boxes of the call: the rule, the barrels, the Allow. -/
def PromB (w : World) (r : Rl) (ov : Value) (al : Int) (W : World) : Prop :=
  RuleAt W w.heap.size r ∧ W.cell? ⟨w.heap.size + 1, 0, none⟩ = some ov ∧ W.cell? ⟨w.heap.size + 1 + 1, 0, none⟩ = some (.int .i64 al) ∧ W.frozen? ⟨w.heap.size + 1 + 1, 0, none⟩ = false ∧ Below w.heap.size w W

theorem PromB.lt {w : World} {r : Rl} {ov : Value} {al : Int} {W : World} (h : PromB w r ov al W) : w.heap.size + 1 + 1 < W.heap.size := World.block_lt_of_cell? W _ h.2.2.1
theorem PromB.below {w : World} {r : Rl} {ov : Value} {al : Int} {W W' : World} (h : PromB w r ov al W) (hB : Below W.heap.size W W') : PromB w r ov al W' := by
  have hlt := h.lt
  obtain ⟨h1, h2, h3, h4, h5⟩ := h
  exact ⟨h1.below hB (by omega), (hB.cell (by simp; omega)).trans h2, (hB.cell (by simp; omega)).trans h3, (hB.frozen (by simp; omega)).trans h4, below_trans h5 hB⟩
theorem PromB.start (w : World) (r : Rl) (ov : Value) : PromB w r ov 0 (((w.alloc (.cells #[.int .i64 r.g, .int .i64 r.po, .int .i64 r.pi, .int .i64 r.b, .int .i64 r.fo, .int .i64 r.fi] 39)).alloc (.cells #[ov] 58)).alloc (.cells #[.int .i64 0] 3)) := by
  refine ⟨by unfold RuleAt; go_simp, by go_simp, by go_simp, by go_simp, ((below_alloc _).alloc (by simp) _).alloc (by simp; omega) _⟩
theorem PromB.set {w : World} {r : Rl} {ov : Value} {al : Int} {W : World} (h : PromB w r ov al W) (al' : Int) : PromB w r ov al' (W.setCell ⟨w.heap.size + 1 + 1, 0, none⟩ (.int .i64 al')) := by
  obtain ⟨⟨r0, r1, r2, r3, r4, r5⟩, h2, h3, h4, h5⟩ := h
  have k : ∀ (b i : Nat), b ≠ w.heap.size + 1 + 1 → (W.setCell ⟨w.heap.size + 1 + 1, 0, none⟩ (.int .i64 al')).cell? ⟨b, i, none⟩ = W.cell? ⟨b, i, none⟩ := fun b i hb => World.cell?_setCell_far _ _ _ _ (by simp; omega)
  refine ⟨⟨(k _ _ (by omega)).trans r0, (k _ _ (by omega)).trans r1, (k _ _ (by omega)).trans r2, (k _ _ (by omega)).trans r3, (k _ _ (by omega)).trans r4, (k _ _ (by omega)).trans r5⟩, (k _ _ (by omega)).trans h2, World.cell?_setCell_same' _ _ _ (by rw [h3]; rfl), ?_, h5.setCell (p := ⟨w.heap.size + 1 + 1, 0, none⟩) (by simp; omega) _⟩
  rw [World.frozen?_setCell]; exact h4

theorem PromB.step {w : World} {r : Rl} {ov : Value} {al : Int} {W W' : World} {m : Nat} (h : PromB w r ov al W) (hM : Memo W m) (hG : W.grownBy W' (some m)) (hm : w.heap.size ≤ m) : PromB w r ov al W' := by
  have hlt := h.lt
  obtain ⟨⟨r0, r1, r2, r3, r4, r5⟩, h2, h3, h4, h5⟩ := h
  have k : ∀ {a : Addr} {v : Value}, W.cell? a = some v → W'.cell? a = some v := fun hc => hG.cell hc (fun e => hM.noCell hc (by injection e))
  exact ⟨⟨k r0, k r1, k r2, k r3, k r4, k r5⟩, k h2, k h3, (World.frozen?_of_block (hG.block (w.heap.size + 1 + 1) hlt (fun e => hM.noCell h3 (by injection e)))).trans h4, h5.trans (below_of_grown hG h5.size hm)⟩

theorem PromB.own {w : World} {r : Rl} {ov : Value} {al : Int} {B : Nat} (hB : w.heap.size ≤ B) : ∀ (W W' : World) (row : Option Nat), PromB w r ov al W → W.grownBy W' row → (∀ k, row = some k → B ≤ k ∧ ∃ o : Obj, W.heap[k]? = some o ∧ o.isCells = false) → PromB w r ov al W' := by
  rintro W W' row h hg hr
  have hlt := h.lt
  obtain ⟨⟨r0, r1, r2, r3, r4, r5⟩, h2, h3, h4, h5⟩ := h
  have k : ∀ {a : Addr} {v : Value}, W.cell? a = some v → W'.cell? a = some v := fun hc => cell_kept hc hg (fun r e => (hr r e).2)
  exact ⟨⟨k r0, k r1, k r2, k r3, k r4, k r5⟩, k h2, k h3, (frozen_kept h3 hg (fun r e => (hr r e).2)).trans h4, h5.grown hg h5.size (fun j e => by have := (hr j e).1; omega)⟩

set_option maxRecDepth 100000 in
set_option maxHeartbeats 800000 in
theorem promise_marks (v ov : Value) (ms : List Mk) (N : Int) (r : Rl) (w : World) (hms : MarksAt w v ms) (hlen : ms.length ≤ 140737488351232) (hov : ∃ a n c, ov = .slice a n c) (h : marksB ms = false) :
    Calls Try.prog 37 #[v, .int .i64 N, rlV r, ov] w fun e w' => e = .returned (promV (0, 0, 70)) ∧ Below w.heap.size w w' := by
  have H := Lib.hid h
  obtain ⟨oa, on, oc, rfl⟩ := hov
  have hst := PromB.start w r (.slice oa on oc)
  have Hms := Lib.hid (hms.below hst.2.2.2.2)
  have Hst := Lib.hid hst
  clear hst h hms
  obtain ⟨g, po, pi, b, fo, fi⟩ := r
  go_enter Try.func37, Try.ntmps37
  go_wp2_with fail
  refine (areMarks_is v ms _ Hms.out hlen H.out).mono ?_
  rintro e w1 ⟨rfl, hB1⟩
  have hP := Hst.out.below hB1
  have Hp := Lib.hid hP
  obtain ⟨_, _, a0, f0, _⟩ := hP
  clear hB1
  go_wp2_with fail
  refine bodyPost_ret (v := promV (0, 0, 70)) (by simp [results, Try.results37, go_sem, a0]) rfl ⟨rfl, ?_⟩
  exact (Hp.out.set 0).2.2.2.2

set_option maxRecDepth 100000 in
set_option maxHeartbeats 800000 in
theorem promise_range (v ov : Value) (ms : List Mk) (N : Int) (r : Rl) (w : World) (hms : MarksAt w v ms) (hlen : ms.length ≤ 140737488351232) (hov : ∃ a n c, ov = .slice a n c) (h : marksB ms = true) (h1 : inB N 1 40 = false) :
    Calls Try.prog 37 #[v, .int .i64 N, rlV r, ov] w fun e w' => e = .returned (promV (0, 0, 7)) ∧ Below w.heap.size w w' := by
  have H := Lib.hid h
  have H1 := Lib.hid h1
  clear h1
  obtain ⟨oa, on, oc, rfl⟩ := hov
  have hst := PromB.start w r (.slice oa on oc)
  have Hms := Lib.hid (hms.below hst.2.2.2.2)
  have Hst := Lib.hid hst
  clear hst h hms
  obtain ⟨g, po, pi, b, fo, fi⟩ := r
  go_enter Try.func37, Try.ntmps37
  go_wp2_with fail
  refine (areMarks_is v ms _ Hms.out hlen H.out).mono ?_
  rintro e w1 ⟨rfl, hB1⟩
  have hP := Hst.out.below hB1
  have Hp := Lib.hid hP
  have hlt := hP.lt
  obtain ⟨⟨r0, r1, r2, r3, r4, r5⟩, _, a0, f0, _⟩ := hP
  clear hB1
  go_wp2_with fail
  refine (ruled_range N ⟨g, po, pi, b, fo, fi⟩ _ H1.out).mono ?_
  rintro e w2 ⟨rfl, hB2⟩
  have hP2 := (Hp.out.below hB2).below (below_alloc (w := w2) (.cells #[.int .i64 0, .map none] 103))
  have Hp2 := Lib.hid hP2
  have hlt2 := (Hp.out.below hB2).lt
  have Hq := Lib.hid (Hp.out.below hB2)
  have hlt3 := hP2.lt
  obtain ⟨_, _, a1, f1, _⟩ := Hp.out.below hB2
  clear hB2 hP2
  go_wp2_with fail
  refine bodyPost_ret (v := promV (0, 0, 7)) (by simp [results, Try.results37, go_sem, a1, hlt2]) rfl ⟨rfl, ?_⟩
  exact below_more (Hq.out.set 0).2.2.2.2 _

set_option maxRecDepth 100000 in
set_option maxHeartbeats 800000 in
theorem promise_rule (v ov : Value) (ms : List Mk) (N : Int) (r : Rl) (w : World) (hms : MarksAt w v ms) (hlen : ms.length ≤ 140737488351232) (hov : ∃ a n c, ov = .slice a n c) (h : marksB ms = true) (h1 : inB N 1 40 = true) (h2 : ruleB N r = false) :
    Calls Try.prog 37 #[v, .int .i64 N, rlV r, ov] w fun e w' => e = .returned (promV (0, 0, 71)) ∧ Below w.heap.size w w' := by
  have H := Lib.hid h
  have H1 := Lib.hid h1
  have H2 := Lib.hid h2
  clear h1 h2
  obtain ⟨oa, on, oc, rfl⟩ := hov
  have hst := PromB.start w r (.slice oa on oc)
  have Hms := Lib.hid (hms.below hst.2.2.2.2)
  have Hst := Lib.hid hst
  clear hst h hms
  obtain ⟨g, po, pi, b, fo, fi⟩ := r
  go_enter Try.func37, Try.ntmps37
  go_wp2_with fail
  refine (areMarks_is v ms _ Hms.out hlen H.out).mono ?_
  rintro e w1 ⟨rfl, hB1⟩
  have hP := Hst.out.below hB1
  have Hp := Lib.hid hP
  have hlt := hP.lt
  obtain ⟨⟨r0, r1, r2, r3, r4, r5⟩, _, a0, f0, _⟩ := hP
  clear hB1
  go_wp2_with fail
  refine (ruled_in N ⟨g, po, pi, b, fo, fi⟩ _ H1.out).mono ?_
  rw [H2.out]
  rintro e w2 ⟨rfl, hM2, hB2⟩
  clear hM2
  have hP2 := (Hp.out.below hB2).below (below_alloc (w := w2) (.cells #[.int .i64 N, .map (some (w1.heap.size + 1 + 1 + 1))] 103))
  have Hp2 := Lib.hid hP2
  have hlt2 := (Hp.out.below hB2).lt
  have Hq := Lib.hid (Hp.out.below hB2)
  have hlt3 := hP2.lt
  obtain ⟨_, _, a1, f1, _⟩ := Hp.out.below hB2
  clear hB2 hP2
  go_wp2_with fail
  refine bodyPost_ret (v := promV (0, 0, 71)) (by simp [results, Try.results37, go_sem, a1, hlt2]) rfl ⟨rfl, ?_⟩
  exact below_more (Hq.out.set 0).2.2.2.2 _

set_option maxRecDepth 100000 in
set_option maxHeartbeats 1600000 in
theorem promise_opened (v ov : Value) (ms : List Mk) (xs : List Br) (N : Int) (r : Rl) (w : World) (hms : MarksAt w v ms) (hlen : ms.length ≤ 140737488351232) (hxs : BrsAt w ov xs) (hlx : xs.length ≤ 140737488351232)
    (h : marksB ms = true) (h1 : inB N 1 40 = true) (h2 : ruleB N r = true) (h3 : okOpened N xs = false) :
    Calls Try.prog 37 #[v, .int .i64 N, rlV r, ov] w fun e w' => e = .returned (promV (0, 0, 73)) ∧ Below w.heap.size w w' := by
  have H := Lib.hid h
  have H1 := Lib.hid h1
  have H2 := Lib.hid h2
  have H3 := Lib.hid h3
  obtain ⟨oa, oc, rfl, hx⟩ := hxs
  have Hxs : Hid (BrsAt w (.slice oa xs.length oc) xs) := ⟨oa, oc, rfl, hx⟩
  have hst := PromB.start w r (.slice oa xs.length oc)
  have Hms := Lib.hid (hms.below hst.2.2.2.2)
  have Hst := Lib.hid hst
  clear hst h hms h1 h2 h3 hx
  obtain ⟨g, po, pi, b, fo, fi⟩ := r
  go_enter Try.func37, Try.ntmps37
  go_wp2_with fail
  refine (areMarks_is v ms _ Hms.out hlen H.out).mono ?_
  rintro e w1 ⟨rfl, hB1⟩
  have hP := Hst.out.below hB1
  have Hp := Lib.hid hP
  have hlt := hP.lt
  obtain ⟨⟨r0, r1, r2, r3, r4, r5⟩, _, a0, f0, _⟩ := hP
  clear hB1
  go_wp2_with fail
  refine (ruled_in N ⟨g, po, pi, b, fo, fi⟩ _ H1.out).mono ?_
  rw [H2.out]
  rintro e w2 ⟨rfl, hM2, hB2⟩
  clear hM2
  have hP2 := (Hp.out.below hB2).below (below_alloc (w := w2) (.cells #[.int .i64 N, .map (some (w1.heap.size + 1 + 1 + 1))] 103))
  have Hp2 := Lib.hid hP2
  have hlt2 := (Hp.out.below hB2).lt
  obtain ⟨_, o1, _, _, _⟩ := Hp.out.below hB2
  have z1 : w.heap.size + 1 < w2.heap.size := by omega
  obtain ⟨q0, hq⟩ : ∃ q, decide ((xs.length : Int) ≤ N) = q := ⟨_, rfl⟩
  clear hB2 hP2 r0 r1 r2 r3 r4 r5 a0 f0
  go_wp2_with fail
  have Hq := Lib.hid hq
  clear hq
  obtain ⟨W, hW⟩ : ∃ W, w2.alloc (.cells #[.int .i64 N, .map (some (w1.heap.size + 1 + 1 + 1))] 103) = W := ⟨_, rfl⟩
  rw [hW] at Hp2 ⊢
  clear hW o1 z1
  go_loopw [12, 40] (fun ok i wr => ∃ k : Nat, k ≤ xs.length ∧ i = .int .i64 k ∧ ok = .bool (q0 && (xs.take k).all barB) ∧ Below W.heap.size W wr) (fun _ i _ => (xs.length - (intOf i).toNat))
  case atStart => exact ⟨0, by omega, rfl, by simp, Below.refl _ _⟩
  case round =>
    obtain ⟨k, hk, rfl, rfl, hB⟩ := hrel
    by_cases hlt : k < xs.length
    · have hk1 : (k : Int) < (xs.length : Int) := by omega
      have hk0 : (0 : Int) ≤ (k : Int) := by omega
      obtain ⟨oa2, oc2, he, hx⟩ := Hxs.out.below (below_trans Hp2.out.2.2.2.2 hB)
      obtain ⟨b', off, ha, hc⟩ := hx k xs[k] (by simp [hlt])
      obtain rfl : oa = some ⟨b', off, none⟩ := by injection he with he; rw [he, ha]
      have hbl := hc.lt
      have Hn : Hid ((q0 && (xs.take (k + 1)).all barB) = ((q0 && (xs.take k).all barB) && barB xs[k])) := by
        show _ = _
        rw [List.take_succ_eq_append_getElem hlt, List.all_append]; simp [Bool.and_assoc]
      generalize xs[k] = x at hc Hn
      obtain ⟨c0, c1, c2, c3⟩ := hc
      clear hx he ha
      have hBa := (below_alloc (w := wr) (.cells #[.int .i64 x.b0, .int .i64 x.b1, .int .i64 x.b2, .int .i64 x.b3] 24))
      generalize (q0 && (xs.take k).all barB) = q1 at Hn ⊢
      cases q1 with
      | false =>
        have Hfin : Hid (Below W.heap.size W (wr.alloc (.cells #[.int .i64 x.b0, .int .i64 x.b1, .int .i64 x.b2, .int .i64 x.b3] 24))) := below_trans hB hBa
        clear hB hBa
        go_wp2_with fail
        go_roundw
        case rel => exact ⟨k + 1, by omega, by go_num, by rw [Hn.out]; rfl, Hfin.out⟩
        case measure => simp [intOf]; omega
      | true =>
        generalize hbx : barB x = q2 at Hn
        have Hbx := Lib.hid hbx
        clear hbx
        go_wp2_with fail
        refine (isBarrel_is x _ Hbx.out).mono ?_
        rintro e w5 ⟨rfl, hB5⟩
        have Hfin := Lib.hid (below_trans (below_trans hB hBa) hB5)
        clear hB hBa hB5
        go_wp2_with fail
        go_roundw
        case rel => exact ⟨k + 1, by omega, by go_num, by rw [Hn.out]; rfl, Hfin.out⟩
        case measure => simp [intOf]; omega
    · have He : Hid (okOpened N xs = (q0 && (xs.take k).all barB)) := by
        show okOpened N xs = _
        rw [okOpened, Hq.out, List.take_of_length_le (by omega)]
      rw [← He.out]
      have hP5 := Hp2.out.below hB
      have Hp5 := Lib.hid hP5
      obtain ⟨_, _, a1, f1, _⟩ := hP5
      rw [H3.out]
      clear hB
      go_wp2_with fail
      refine bodyPost_ret (v := promV (0, 0, 73)) (by simp [results, Try.results37, go_sem, a1]) rfl ⟨rfl, ?_⟩
      exact (Hp5.out.set 0).2.2.2.2

end Go.Proofs.Ythpllmefbhjmmaa
