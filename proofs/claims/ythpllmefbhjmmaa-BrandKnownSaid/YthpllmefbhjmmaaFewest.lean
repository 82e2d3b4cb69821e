/-
  'Fewest': the first plan that keeps a rule.
-/
import Derived.WalkMore
import Derived.Test.YthpllmefbhjmmaaPlans
namespace Go.Proofs.Ythpllmefbhjmmaa
open Go.RowKit Go.Shelf Go.Maps Plain
attribute [local go_sem] Oper.semAt_some

/-- What 'Fewest' answers: the plan, and the error. -/
def fewestR (N : Int) (r : Rl) : Int × Int × Int :=
  if inB N 1 40 = true then
    if ruleB N r = true then
      match (rows (N.toNat + 1)).find? (fun x => keepsB N r x.1 x.2) with
      | some x => ((x.1 : Int), (x.2 : Int), 0)
      | none => (0, 0, 4)
    else (0, 0, 71)
  else (0, 0, 7)

theorem calls_of_marks {f : FuncId} {fn : Func} {c : Code} {args : Array Value} {w : World} {R : Ending → World → Prop} (n : Nat)
    (hf : Try.prog.funcs[f]? = some fn) (hb : fn.body = some c)
    (h : c.wp Try.prog (bodyPostM Fence.wide n Try.prog fn R) { tmps := args ++ Array.replicate (fn.ntmps - args.size) undef, defers := [] } w) : Calls Try.prog f args w R :=
  (callsIn_wide (n := n)).1 (callsIn_of_wp_marks hf hb trivial (wpIn_wide.2 h))

theorem RuleAt.grown {w w' : World} {b m : Nat} {r : Rl} (h : RuleAt w b r) (hG : w.grownBy w' (some m)) (hb : b ≠ m) : RuleAt w' b r := by
  obtain ⟨h0, h1, h2, h3, h4, h5⟩ := h
  have hne : ∀ i, some (⟨b, i, none⟩ : Addr).block ≠ some m := fun i e => hb (by injection e)
  exact ⟨hG.cell h0 (hne 0), hG.cell h1 (hne 1), hG.cell h2 (hne 2), hG.cell h3 (hne 3), hG.cell h4 (hne 4), hG.cell h5 (hne 5)⟩
theorem TwoAt.grown {w w' : World} {b m : Nat} {x y : Value} (h : TwoAt w b x y) (hG : w.grownBy w' (some m)) (hb : b ≠ m) : TwoAt w' b x y :=
  ⟨hG.cell h.1 (fun e => hb (by injection e)), hG.cell h.2 (fun e => hb (by injection e))⟩

theorem cell_putObj {W : World} {D : Nat} {o o' : Obj} (hK : W.heap[D]? = some o) (ho : o.isCells = false) {a : Addr} {v : Value} (h : W.cell? a = some v) : (W.putObj D o').cell? a = some v :=
  cell_kept h (grownBy_putObj' W D o') (fun r e => by cases e; exact ⟨_, hK, ho⟩)

theorem grown_far {a b c : World} {m : Nat} {row : Option Nat} (h : a.grownBy b (some m)) (k : b.grownBy c row) (hr : ∀ r, row = some r → a.heap.size ≤ r) : a.grownBy c (some m) :=
  ⟨k.os.trans h.os, k.tape.trans h.tape, k.output.trans h.output, Nat.le_trans h.size k.size, fun i hi hne => (k.block i (Nat.lt_of_lt_of_le hi h.size) (fun e => by have := hr i e.symm; omega)).trans (h.block i hi hne)⟩

set_option maxRecDepth 100000 in
set_option maxHeartbeats 1600000 in
theorem fewest_main (N : Int) (r : Rl) (w : World) (h1 : inB N 1 40 = true) (h2 : ruleB N r = true) :
    Calls Try.prog 26 #[.int .i64 N, rlV r] w fun e w' => e = .returned (oddsV (fewestR N r)) ∧ Below w.heap.size w w' := by
  obtain ⟨g1, g2⟩ := inB_true h1
  have H1 := Lib.hid h1
  have H2 := Lib.hid h2
  clear h1 h2
  obtain ⟨g, po, pi, b, fo, fi⟩ := r
  have hB := ((below_alloc (w := w) (.cells #[.int .i64 g, .int .i64 po, .int .i64 pi, .int .i64 b, .int .i64 fo, .int .i64 fi] 39)).alloc (by simp) (.cells #[.int .i64 0, .int .i64 0] 32)).alloc (by simp; omega) (.cells #[.int .i64 0] 25)
  refine calls_of_marks 9 Try.func26 rfl ?_
  simp only [Try.ntmps26, List.size_toArray, List.length_cons, List.length_nil, Nat.reduceAdd, Nat.reduceSub, Array.replicate_succ, Array.replicate_zero, List.push_toArray, List.append_toArray, List.nil_append, List.cons_append]
  go_wp2_with fail
  go_step3
  go_wp2_with fail
  refine (ruled_in N ⟨g, po, pi, b, fo, fi⟩ _ H1.out).mono ?_
  rw [H2.out]
  rintro e w1 ⟨rfl, hM1, hB1⟩
  have R0 : RuleAt w1 w.heap.size ⟨g, po, pi, b, fo, fi⟩ := RuleAt.below (by unfold RuleAt; go_simp) hB1 (by simp <;> omega)
  have P0 : TwoAt w1 (w.heap.size + 1) (.int .i64 0) (.int .i64 0) := TwoAt.below (by unfold TwoAt; go_simp) hB1 (by simp <;> omega)
  have E0 : w1.cell? ⟨w.heap.size + 1 + 1, 0, none⟩ = some (.int .i64 0) := (hB1.cell (by simp)).trans (by go_simp)
  have F0 : w1.frozen? ⟨w.heap.size + 1, 0, none⟩ = false := (hB1.frozen (by simp <;> omega)).trans (by go_simp)
  have F1 : w1.frozen? ⟨w.heap.size + 1, 1, none⟩ = false := (hB1.frozen (by simp <;> omega)).trans (by go_simp)
  have F2 : w1.frozen? ⟨w.heap.size + 1 + 1, 0, none⟩ = false := (hB1.frozen (by simp <;> omega)).trans (by go_simp)
  have hz := hB1.size
  simp only [World.size_alloc] at hz hM1
  have hB2 := below_trans hB hB1
  have hm1 := hM1.lt
  clear hB hB1
  obtain ⟨n, rfl⟩ := Int.eq_ofNat_of_zero_le (show 0 ≤ N by omega)
  go_wp2_with fail
  go_step3
  go_wp2_with fail
  refine ((callsIn_wide (n := 3)).1 (plans_in Fence.wide 3 trivial rfl _ _ _)).mono ?_
  rintro e w2 ⟨rfl, rfl⟩
  have hMa := (hM1.kept (World.grownBy_alloc _ (.cells #[.int .i64 (n : Int), .map (some (w.heap.size + 1 + 1 + 1 + 1 + 1 + 1))] 103) none) (by simp)).kept (World.grownBy_alloc _ (.cells #[.int .i64 (n : Int), .map (some (w.heap.size + 1 + 1 + 1 + 1 + 1 + 1))] 103) none) (by simp)
  have hBa := below_more (below_more hB2 (.cells #[.int .i64 (n : Int), .map (some (w.heap.size + 1 + 1 + 1 + 1 + 1 + 1))] 103)) (.cells #[.int .i64 (n : Int), .map (some (w.heap.size + 1 + 1 + 1 + 1 + 1 + 1))] 103)
  have hbb : Below w1.heap.size w1 ((w1.alloc (.cells #[.int .i64 (n : Int), .map (some (w.heap.size + 1 + 1 + 1 + 1 + 1 + 1))] 103)).alloc (.cells #[.int .i64 (n : Int), .map (some (w.heap.size + 1 + 1 + 1 + 1 + 1 + 1))] 103)) := below_more (below_alloc _) _
  have Ra := R0.below hbb (by omega)
  have Pa := P0.below hbb (by omega)
  have La : TwoAt ((w1.alloc (.cells #[.int .i64 (n : Int), .map (some (w.heap.size + 1 + 1 + 1 + 1 + 1 + 1))] 103)).alloc (.cells #[.int .i64 (n : Int), .map (some (w.heap.size + 1 + 1 + 1 + 1 + 1 + 1))] 103)) w1.heap.size (.int .i64 (n : Int)) (.map (some (w.heap.size + 1 + 1 + 1 + 1 + 1 + 1))) := by unfold TwoAt; go_simp
  have Ca : ((w1.alloc (.cells #[.int .i64 (n : Int), .map (some (w.heap.size + 1 + 1 + 1 + 1 + 1 + 1))] 103)).alloc (.cells #[.int .i64 (n : Int), .map (some (w.heap.size + 1 + 1 + 1 + 1 + 1 + 1))] 103)).cell? ⟨w1.heap.size + 1, 0, none⟩ = some (.int .i64 (n : Int)) := by go_simp
  have Ea := (hbb.cell (p := ⟨w.heap.size + 1 + 1, 0, none⟩) (by simp; omega)).trans E0
  have Fa := (hbb.frozen (p := ⟨w.heap.size + 1, 0, none⟩) (by simp; omega)).trans F0
  have Fb := (hbb.frozen (p := ⟨w.heap.size + 1, 1, none⟩) (by simp; omega)).trans F1
  have Fc := (hbb.frozen (p := ⟨w.heap.size + 1 + 1, 0, none⟩) (by simp; omega)).trans F2
  have hza : ((w1.alloc (.cells #[.int .i64 (n : Int), .map (some (w.heap.size + 1 + 1 + 1 + 1 + 1 + 1))] 103)).alloc (.cells #[.int .i64 (n : Int), .map (some (w.heap.size + 1 + 1 + 1 + 1 + 1 + 1))] 103)).heap.size = w1.heap.size + 1 + 1 := by simp
  clear hbb R0 P0 E0 F0 F1 F2 hB2 hM1
  go_wp2_with fail
  obtain ⟨W0, hW0⟩ : ∃ W0, (w1.alloc (.cells #[.int .i64 (n : Int), .map (some (w.heap.size + 1 + 1 + 1 + 1 + 1 + 1))] 103)).alloc (.cells #[.int .i64 (n : Int), .map (some (w.heap.size + 1 + 1 + 1 + 1 + 1 + 1))] 103) = W0 := ⟨_, rfl⟩
  rw [hW0] at hMa hBa Ra Pa La Ca Ea Fa Fb Fc hza ⊢
  clear hW0
  refine (wpIn_wide (n := 9)).1 (wpIn_rangeFunc_ownH (F := Fence.wide) (n := 9) rfl (by omega) (gf := 98) (lb := #[.pointer (some ⟨w1.heap.size + 1, 0, none⟩)]) rfl trivial (enters_of Try.func98 (by kernel_rfl) rfl)
    (plans_stops Fence.wide 8 trivial rfl (by omega) (w1.heap.size + 1) n (by omega) W0 (by omega) Ca) (fun _ _ => trivial) (fun _ _ _ _ _ _ _ _ => trivial) (Below.refl _ _) (fun _ => rfl)
    (fun pre W => (Memo W (w.heap.size + 1 + 1 + 1 + 1 + 1 + 1) ∧ W0.grownBy W (some (w.heap.size + 1 + 1 + 1 + 1 + 1 + 1))) ∧ ∀ x ∈ pre, keepsB n ⟨g, po, pi, b, fo, fi⟩ (x.1.1 : Int) (x.1.2 : Int) = false)
    (fun c pre W => c = .ret ∧ ∃ (pr : List (Pl n)) (x : Pl n), pre = pr ++ [x] ∧ (∀ x ∈ pr, keepsB n ⟨g, po, pi, b, fo, fi⟩ (x.1.1 : Int) (x.1.2 : Int) = false) ∧ keepsB n ⟨g, po, pi, b, fo, fi⟩ (x.1.1 : Int) (x.1.2 : Int) = true ∧
      TwoAt W (w.heap.size + 1) (.int .i64 (x.1.1 : Int)) (.int .i64 (x.1.2 : Int)) ∧ W.cell? ⟨w.heap.size + 1 + 1, 0, none⟩ = some (.int .i64 0) ∧ Below w.heap.size w W)
    ?hI ?hIx ?h0
    (fun x a' W => ∃ Bx, W0.heap.size ≤ Bx ∧ TwoAt W Bx (.int .i64 (x.1.1 : Int)) (.int .i64 (x.1.2 : Int)) ∧ a' = { tmps := #[.int .i64 (n : Int), rlV ⟨g, po, pi, b, fo, fi⟩, undef, .pointer (some ⟨w.heap.size, 0, none⟩), .pointer (some ⟨w.heap.size + 1, 0, none⟩), .pointer (some ⟨w.heap.size + 1 + 1, 0, none⟩), .pointer (some ⟨w1.heap.size, 0, none⟩), .int .i64 0, .pointer (some ⟨Bx, 0, none⟩), .tuple #[lotV (n : Int) (w.heap.size + 1 + 1 + 1 + 1 + 1 + 1), .int .i64 0], .int .i64 (n : Int), .agg #[.int .i64 g, .int .i64 po, .int .i64 pi, .int .i64 b, .int .i64 fo, .int .i64 fi], .tuple #[lotV (n : Int) (w.heap.size + 1 + 1 + 1 + 1 + 1 + 1), .int .i64 0], lotV (n : Int) (w.heap.size + 1 + 1 + 1 + 1 + 1 + 1), .int .i64 0, .int .i64 0, .bool false, undef, undef, .agg #[.int .i64 (n : Int), .map (some (w.heap.size + 1 + 1 + 1 + 1 + 1 + 1))], .func (.func 98) #[] #[.pointer (some ⟨w1.heap.size + 1, 0, none⟩)], planV (x.1.1 : Int) (x.1.2 : Int), undef, undef, undef, undef, undef, undef, undef], defers := [] })
    ?hAx ?assign ?body ?done ?stop)
  case hI =>
    rintro s A B row ⟨⟨hM, hG⟩, hno⟩ hg hr
    exact ⟨⟨hM.kept hg (fun e => by have := (hr _ e.symm).1; have := hMa.lt; omega), grown_far hG hg (fun r e => (hr r e).1)⟩, hno⟩
  case hIx =>
    rintro c s A B row ⟨hc, pr, x, hs, hno, hk, hT, hE, hBl⟩ hg hr
    exact ⟨hc, pr, x, hs, hno, hk, ⟨cell_kept hT.1 hg (fun r e => (hr r e).2), cell_kept hT.2 hg (fun r e => (hr r e).2)⟩, cell_kept hE hg (fun r e => (hr r e).2), hBl.grown hg hBl.size (fun k e => by have := (hr k e).1; have := hBa.size; omega)⟩
  case h0 => exact ⟨⟨hMa, ⟨rfl, rfl, rfl, Nat.le_refl _, fun _ _ _ => rfl⟩⟩, fun _ h => by cases h⟩
  case hAx =>
    rintro x a' _ A B row ⟨Bx, hBx, hT, ha⟩ hg hr
    exact ⟨Bx, hBx, ⟨cell_kept hT.1 hg (fun r e => (hr r e).2), cell_kept hT.2 hg (fun r e => (hr r e).2)⟩, ha⟩
  case assign =>
    rintro l pre x W K ⟨⟨hM, hG⟩, hno⟩ hK
    gi_wp2
    exact hK _ _ ((KeepsOthers.alloc _ _).from _) trivial ⟨⟨hM.kept (World.grownBy_alloc _ _ none) (by simp), hG.trans (World.grownBy_alloc _ _ _)⟩, hno⟩ ⟨W.heap.size, hG.size, by unfold TwoAt; go_simp, rfl⟩
  case body =>
    rintro l pre x a' W hl ⟨rr, hr⟩ ⟨⟨hM, hG⟩, hno⟩ ⟨Bx, hBx, hTx, rfl⟩ hlen
    have Hno := Lib.hid hno
    obtain ⟨x1, x2⟩ := x
    obtain ⟨xo, xa⟩ := x1
    simp only at x2 hTx
    obtain ⟨q, hq⟩ : ∃ q, keepsB n ⟨g, po, pi, b, fo, fi⟩ (xo : Int) (xa : Int) = q := ⟨_, rfl⟩
    have Hq := Lib.hid hq
    clear hno hq
    obtain ⟨r0, r1, r2, r3, r4, r5⟩ := Ra.grown hG (by omega)
    obtain ⟨p0, p1⟩ := Pa.grown hG (by omega)
    obtain ⟨l0, l1⟩ := La.grown hG (by omega)
    obtain ⟨t0, t1⟩ := hTx
    gi_wp2_with fail
    refine ⟨trivial, ?_⟩
    refine (CallsIn.inRound l (callsIn_wide.2 (keeps_any n _ ⟨g, po, pi, b, fo, fi⟩ xo xa _ (by omega) g2 (by omega) (by omega) (by omega) H2.out hM))).mono ?_
    rintro e w2 ⟨rfl, hM2, hG2⟩
    rw [Hq.out]
    have hG3 := hG.trans hG2
    have hK2 : KeepsFrom W0.heap.size W w2 := KeepsFrom.of_grownBy hG2 (fun j e => by cases e; have := hMa.lt; omega)
    have hBw : Below w.heap.size w w2 := hBa.trans (below_of_grown (B := w.heap.size) hG3 hBa.size (by omega))
    cases q with
    | false =>
      have Hfin : Hid ((Memo w2 (w.heap.size + 1 + 1 + 1 + 1 + 1 + 1) ∧ W0.grownBy w2 (some (w.heap.size + 1 + 1 + 1 + 1 + 1 + 1))) ∧ ∀ x ∈ pre ++ [(⟨(xo, xa), x2⟩ : Pl n)], keepsB n ⟨g, po, pi, b, fo, fi⟩ (x.1.1 : Int) (x.1.2 : Int) = false) :=
        ⟨⟨hM2, hG3⟩, fun x hx => by
          rcases List.mem_append.1 hx with hx | hx
          · exact Hno.out x hx
          · rw [List.mem_singleton] at hx; subst hx; exact Hq.out⟩
      have Hk2 := Lib.hid hK2
      clear hM2 hG2 hG3 hK2 hBw
      gi_wp2_with fail
      exact ⟨Hk2.out, trivial, Hfin.out⟩
    | true =>
      obtain ⟨c0, c1⟩ := Pa.grown hG3 (by omega)
      have c2 := hG3.cell Ea (by simp)
      have f0 : w2.frozen? ⟨w.heap.size + 1, 0, none⟩ = false := (World.frozen?_of_block (hG3.block (w.heap.size + 1) (by omega) (by simp))).trans Fa
      have f1 : w2.frozen? ⟨w.heap.size + 1, 1, none⟩ = false := (World.frozen?_of_block (hG3.block (w.heap.size + 1) (by omega) (by simp))).trans Fb
      have f2 : w2.frozen? ⟨w.heap.size + 1 + 1, 0, none⟩ = false := (World.frozen?_of_block (hG3.block (w.heap.size + 1 + 1) (by omega) (by simp))).trans Fc
      have t0' := hG2.cell t0 (by simp; omega)
      have t1' := hG2.cell t1 (by simp; omega)
      clear hG2
      have Hk2 := Lib.hid hK2
      have Hbw := Lib.hid hBw
      clear hK2 hBw hM2 hG3
      gi_wp2_with fail
      refine ⟨((Hk2.out.trans ((KeepsOthers.setCell _ _ _).from _)).trans ((KeepsOthers.setCell _ _ _).from _)).trans ((KeepsOthers.setCell _ _ _).from _), rfl, pre, ⟨(xo, xa), x2⟩, rfl, Hno.out, Hq.out, ⟨by go_simp, by go_simp⟩, by go_simp, ?_⟩
      exact ((Hbw.out.setCell (p := ⟨w.heap.size + 1, 0, none⟩) (by simp) _).setCell (p := ⟨w.heap.size + 1, 1, none⟩) (by simp) _).setCell (p := ⟨w.heap.size + 1 + 1, 0, none⟩) (by simp; omega) _
  case done =>
    rintro D xs W hD hS ⟨⟨hM, hG⟩, hno⟩ hK
    obtain ⟨c0, c1⟩ := Pa.grown hG (by omega)
    have c2 := hG.cell Ea (by simp)
    have f0 : W.frozen? ⟨w.heap.size + 1, 0, none⟩ = false := (World.frozen?_of_block (hG.block (w.heap.size + 1) (by omega) (by simp))).trans Fa
    have f1 : W.frozen? ⟨w.heap.size + 1, 1, none⟩ = false := (World.frozen?_of_block (hG.block (w.heap.size + 1) (by omega) (by simp))).trans Fb
    have f2 : W.frozen? ⟨w.heap.size + 1 + 1, 0, none⟩ = false := (World.frozen?_of_block (hG.block (w.heap.size + 1 + 1) (by omega) (by simp))).trans Fc
    have hf : fewestR n ⟨g, po, pi, b, fo, fi⟩ = (0, 0, 4) := by
      unfold fewestR
      rw [H1.out, H2.out, if_pos rfl, if_pos rfl, Int.toNat_natCast]
      rw [show (rows (n + 1)).find? (fun x => keepsB n ⟨g, po, pi, b, fo, fi⟩ x.1 x.2) = none from List.find?_eq_none.2 (fun y hy => by
        rw [← hS, List.mem_map] at hy
        obtain ⟨x, hx, rfl⟩ := hy
        simp [hno x hx])]
    have Hf := Lib.hid hf
    have Hk := Lib.hid hK
    have Hbw := Lib.hid (hBa.trans (below_of_grown (B := w.heap.size) hG hBa.size (by omega)))
    clear hf hK hno hS hG hM
    go_wp2_with fail
    rw [Exit.noGoto_ret]
    have hK' : (((W.setCell ⟨w.heap.size + 1, 0, none⟩ (.int .i64 0)).setCell ⟨w.heap.size + 1, 1, none⟩ (.int .i64 0)).setCell ⟨w.heap.size + 1 + 1, 0, none⟩ (.int .i64 4)).heap[D]? = some (.deferred (some [])) := by
      rw [Below.heap_setCell _ _ _ _ (by simp; omega), Below.heap_setCell _ _ _ _ (by simp; omega), Below.heap_setCell _ _ _ _ (by simp; omega)]; exact Hk.out
    have d0 := cell_putObj hK' rfl (o' := .deferred none) (a := ⟨w.heap.size + 1, 0, none⟩) (v := .int .i64 0) (by go_simp)
    have d1 := cell_putObj hK' rfl (o' := .deferred none) (a := ⟨w.heap.size + 1, 1, none⟩) (v := .int .i64 0) (by go_simp)
    have d2 := cell_putObj hK' rfl (o' := .deferred none) (a := ⟨w.heap.size + 1 + 1, 0, none⟩) (v := .int .i64 4) (by go_simp)
    have hB3 := ((Hbw.out.setCell (p := ⟨w.heap.size + 1, 0, none⟩) (by simp) (.int .i64 0)).setCell (p := ⟨w.heap.size + 1, 1, none⟩) (by simp) (.int .i64 0)).setCell (p := ⟨w.heap.size + 1 + 1, 0, none⟩) (by simp; omega) (.int .i64 4)
    have hB4 := hB3.trans (belowK_b (w := w) (Nat.le_refl _) _ D _ (.deferred none) (by have := hBa.size; omega) hK' rfl rfl)
    refine ⟨by simp, .inl ⟨_, _, rfl, run_takeDeferred hK', ?_⟩⟩
    exact ⟨oddsV (0, 0, 4), by simp [results, Try.results26, go_sem, d0, d1, d2], by rw [Hf.out], hB4⟩
  case stop =>
    rintro D c pre W hD hSp ⟨rfl, pr, x, hs, hno, hk, ⟨c0, c1⟩, c2, hBw⟩ hK
    have hf : fewestR n ⟨g, po, pi, b, fo, fi⟩ = ((x.1.1 : Int), (x.1.2 : Int), 0) := by
      unfold fewestR
      rw [H1.out, H2.out, if_pos rfl, if_pos rfl, Int.toNat_natCast]
      obtain ⟨t, ht⟩ := hSp
      rw [show (rows (n + 1)).find? (fun x => keepsB n ⟨g, po, pi, b, fo, fi⟩ x.1 x.2) = some x.1 from by
        rw [← ht, hs, List.map_append, List.append_assoc, List.find?_append, List.find?_eq_none.2 (fun y hy => by
          rw [List.mem_map] at hy
          obtain ⟨z, hz, rfl⟩ := hy
          simp [hno z hz])]
        simp [hk]]
    have Hf := Lib.hid hf
    have Hk := Lib.hid hK
    have Hbw := Lib.hid hBw
    clear hf hK hno hs hk hBw hSp
    gi_wp2_with fail
    rw [Exit.noGoto_ret]
    have d0 := cell_putObj Hk.out rfl (o' := .deferred none) c0
    have d1 := cell_putObj Hk.out rfl (o' := .deferred none) c1
    have d2 := cell_putObj Hk.out rfl (o' := .deferred none) c2
    have hB4 := Hbw.out.trans (belowK_b (w := w) (Nat.le_refl _) _ D _ (.deferred none) (by have := hBa.size; omega) Hk.out rfl rfl)
    refine ⟨by simp, .inl ⟨_, _, rfl, run_takeDeferred Hk.out, ?_⟩⟩
    exact ⟨oddsV ((x.1.1 : Int), (x.1.2 : Int), 0), by simp [results, Try.results26, go_sem, d0, d1, d2], by rw [Hf.out], hB4⟩

set_option maxRecDepth 100000 in
set_option maxHeartbeats 800000 in
theorem fewest_range (N : Int) (r : Rl) (w : World) (h1 : inB N 1 40 = false) :
    Calls Try.prog 26 #[.int .i64 N, rlV r] w fun e w' => e = .returned (oddsV (0, 0, 7)) ∧ Below w.heap.size w w' := by
  have H1 := Lib.hid h1
  clear h1
  obtain ⟨g, po, pi, b, fo, fi⟩ := r
  have hB := ((below_alloc (w := w) (.cells #[.int .i64 g, .int .i64 po, .int .i64 pi, .int .i64 b, .int .i64 fo, .int .i64 fi] 39)).alloc (by simp) (.cells #[.int .i64 0, .int .i64 0] 32)).alloc (by simp; omega) (.cells #[.int .i64 0] 25)
  go_enter Try.func26, Try.ntmps26
  go_wp2_with fail
  go_step3
  go_wp2_with fail
  refine (ruled_range N ⟨g, po, pi, b, fo, fi⟩ _ H1.out).mono ?_
  rintro e w1 ⟨rfl, hB1⟩
  have P0 : TwoAt w1 (w.heap.size + 1) (.int .i64 0) (.int .i64 0) := TwoAt.below (by unfold TwoAt; go_simp) hB1 (by simp <;> omega)
  have E0 : w1.cell? ⟨w.heap.size + 1 + 1, 0, none⟩ = some (.int .i64 0) := (hB1.cell (by simp)).trans (by go_simp)
  have F0 : w1.frozen? ⟨w.heap.size + 1, 0, none⟩ = false := (hB1.frozen (by simp <;> omega)).trans (by go_simp)
  have F1 : w1.frozen? ⟨w.heap.size + 1, 1, none⟩ = false := (hB1.frozen (by simp <;> omega)).trans (by go_simp)
  have F2 : w1.frozen? ⟨w.heap.size + 1 + 1, 0, none⟩ = false := (hB1.frozen (by simp <;> omega)).trans (by go_simp)
  have hz := hB1.size
  simp only [World.size_alloc] at hz
  have z1 : w.heap.size + 1 < w1.heap.size := by omega
  have z2 : w.heap.size + 1 + 1 < w1.heap.size := by omega
  have Hbw := Lib.hid (below_trans hB hB1)
  obtain ⟨p0, p1⟩ := P0
  clear hB hB1
  go_wp2_with fail
  rw [Exit.noGoto_ret]
  refine bodyPost_ret (v := oddsV (0, 0, 7)) (by simp [results, Try.results26, go_sem, p0, p1, E0, z1, z2]) rfl ⟨rfl, ?_⟩
  exact below_more (((Hbw.out.setCell (p := ⟨w.heap.size + 1, 0, none⟩) (by simp) _).setCell (p := ⟨w.heap.size + 1, 1, none⟩) (by simp) _).setCell (p := ⟨w.heap.size + 1 + 1, 0, none⟩) (by simp; omega) _) _

set_option maxRecDepth 100000 in
set_option maxHeartbeats 800000 in
theorem fewest_rule (N : Int) (r : Rl) (w : World) (h1 : inB N 1 40 = true) (h2 : ruleB N r = false) :
    Calls Try.prog 26 #[.int .i64 N, rlV r] w fun e w' => e = .returned (oddsV (0, 0, 71)) ∧ Below w.heap.size w w' := by
  have H1 := Lib.hid h1
  have H2 := Lib.hid h2
  clear h1 h2
  obtain ⟨g, po, pi, b, fo, fi⟩ := r
  have hB := ((below_alloc (w := w) (.cells #[.int .i64 g, .int .i64 po, .int .i64 pi, .int .i64 b, .int .i64 fo, .int .i64 fi] 39)).alloc (by simp) (.cells #[.int .i64 0, .int .i64 0] 32)).alloc (by simp; omega) (.cells #[.int .i64 0] 25)
  go_enter Try.func26, Try.ntmps26
  go_wp2_with fail
  go_step3
  go_wp2_with fail
  refine (ruled_in N ⟨g, po, pi, b, fo, fi⟩ _ H1.out).mono ?_
  rw [H2.out]
  rintro e w1 ⟨rfl, hM1, hB1⟩
  have P0 : TwoAt w1 (w.heap.size + 1) (.int .i64 0) (.int .i64 0) := TwoAt.below (by unfold TwoAt; go_simp) hB1 (by simp <;> omega)
  have E0 : w1.cell? ⟨w.heap.size + 1 + 1, 0, none⟩ = some (.int .i64 0) := (hB1.cell (by simp)).trans (by go_simp)
  have F0 : w1.frozen? ⟨w.heap.size + 1, 0, none⟩ = false := (hB1.frozen (by simp <;> omega)).trans (by go_simp)
  have F1 : w1.frozen? ⟨w.heap.size + 1, 1, none⟩ = false := (hB1.frozen (by simp <;> omega)).trans (by go_simp)
  have F2 : w1.frozen? ⟨w.heap.size + 1 + 1, 0, none⟩ = false := (hB1.frozen (by simp <;> omega)).trans (by go_simp)
  have hz := hB1.size
  simp only [World.size_alloc] at hz
  have z1 : w.heap.size + 1 < w1.heap.size := by omega
  have z2 : w.heap.size + 1 + 1 < w1.heap.size := by omega
  have Hbw := Lib.hid (below_trans hB hB1)
  obtain ⟨p0, p1⟩ := P0
  clear hB hB1 hM1
  go_wp2_with fail
  rw [Exit.noGoto_ret]
  refine bodyPost_ret (v := oddsV (0, 0, 71)) (by simp [results, Try.results26, go_sem, p0, p1, E0, z1, z2]) rfl ⟨rfl, ?_⟩
  exact below_more (((Hbw.out.setCell (p := ⟨w.heap.size + 1, 0, none⟩) (by simp) _).setCell (p := ⟨w.heap.size + 1, 1, none⟩) (by simp) _).setCell (p := ⟨w.heap.size + 1 + 1, 0, none⟩) (by simp; omega) _) _

/-- 'Fewest', at whatever numbers. -/
theorem fewest_any (N : Int) (r : Rl) (w : World) :
    Calls Try.prog 26 #[.int .i64 N, rlV r] w fun e w' => e = .returned (oddsV (fewestR N r)) ∧ Below w.heap.size w w' := by
  cases h1 : inB N 1 40 with
  | false =>
    have e : fewestR N r = (0, 0, 7) := by unfold fewestR; rw [h1, if_neg (by simp)]
    rw [e]; exact fewest_range N r w h1
  | true =>
    cases h2 : ruleB N r with
    | false =>
      have e : fewestR N r = (0, 0, 71) := by unfold fewestR; rw [h1, h2, if_pos rfl, if_neg (by simp)]
      rw [e]; exact fewest_rule N r w h1 h2
    | true => exact fewest_main N r w h1 h2

end Go.Proofs.Ythpllmefbhjmmaa
