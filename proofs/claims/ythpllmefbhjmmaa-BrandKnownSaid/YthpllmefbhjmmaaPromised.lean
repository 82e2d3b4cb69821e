/-
  'Promise': a lot that is valid in all.
-/
import Derived.Test.YthpllmefbhjmmaaPromise
namespace Go.Proofs.Ythpllmefbhjmmaa
open Go.RowKit Go.Shelf Go.Maps Plain
attribute [local go_sem] Oper.semAt_some

theorem allowFold_snoc (N : Int) (r : Rl) (n : Nat) (l : List (Nat × Nat)) (x : Nat × Nat) :
    allowFold N r n (l ++ [x]) = if (x.1 == n) && keepsB N r (x.1 : Int) (x.2 : Int) then (x.2 : Int) else allowFold N r n l := by
  simp only [allowFold, List.foldl_append, List.foldl_cons, List.foldl_nil]

set_option maxRecDepth 100000 in
set_option maxHeartbeats 1600000 in
theorem promise_main (v ov : Value) (ms : List Mk) (xs : List Br) (N : Int) (r : Rl) (w : World) (hms : MarksAt w v ms) (hlen : ms.length ≤ 140737488351232) (hxs : BrsAt w ov xs) (hlx : xs.length ≤ 140737488351232)
    (h : marksB ms = true) (h1 : inB N 1 40 = true) (h2 : ruleB N r = true) (h3 : okOpened N xs = true) :
    Calls Try.prog 37 #[v, .int .i64 N, rlV r, ov] w fun e w' => e = .returned (promV (promiseR ms N r xs)) ∧ Below w.heap.size w w' := by
  obtain ⟨g1, g2⟩ := inB_true h1
  obtain ⟨n, rfl⟩ := Int.eq_ofNat_of_zero_le (show 0 ≤ N by omega)
  have hres : promiseR ms n r xs = promFin (allowFold n r xs.length (rows (n + 1))) (promised (allowFold n r xs.length (rows (n + 1))) ms xs) := by
    unfold promiseR; rw [if_pos h, if_pos h1, if_pos h2, if_pos h3, Int.toNat_natCast]
  have Hres := Lib.hid hres
  have H := Lib.hid h
  have H1 := Lib.hid h1
  have H2 := Lib.hid h2
  have H3 := Lib.hid h3
  obtain ⟨oa, oc, rfl, hx⟩ := hxs
  have Hxs : Hid (BrsAt w (.slice oa xs.length oc) xs) := ⟨oa, oc, rfl, hx⟩
  have hst := PromB.start w r (.slice oa xs.length oc)
  have Hms := Lib.hid (hms.below hst.2.2.2.2)
  have Hst := Lib.hid hst
  clear hst h h1 h2 h3 hx hres
  have Hms0 := Lib.hid hms
  clear hms
  obtain ⟨g, po, pi, b, fo, fi⟩ := r
  refine calls_of_marks 9 Try.func37 rfl ?_
  simp only [Try.ntmps37, List.size_toArray, List.length_cons, List.length_nil, Nat.reduceAdd, Nat.reduceSub, Array.replicate_succ, Array.replicate_zero, List.push_toArray, List.append_toArray, List.nil_append, List.cons_append]
  go_wp2_with fail
  refine (areMarks_is v ms _ Hms.out hlen H.out).mono ?_
  rintro e w1 ⟨rfl, hB1⟩
  have hP := Hst.out.below hB1
  have Hp := Lib.hid hP
  have hlt := hP.lt
  obtain ⟨⟨r0, r1, r2, r3, r4, r5⟩, _, a0, f0, _⟩ := hP
  clear hB1
  go_wp2_with fail
  refine (ruled_in n ⟨g, po, pi, b, fo, fi⟩ _ H1.out).mono ?_
  rw [H2.out]
  rintro e w2 ⟨rfl, hM2, hB2⟩
  have hM3 := hM2.kept (World.grownBy_alloc _ (.cells #[.int .i64 (n : Int), .map (some (w1.heap.size + 1 + 1 + 1))] 103) none) (by simp)
  have hL3 : TwoAt (w2.alloc (.cells #[.int .i64 (n : Int), .map (some (w1.heap.size + 1 + 1 + 1))] 103)) w2.heap.size (.int .i64 (n : Int)) (.map (some (w1.heap.size + 1 + 1 + 1))) := by unfold TwoAt; go_simp
  have hm2 := hM2.lt
  clear hM2
  have hP2 := (Hp.out.below hB2).below (below_alloc (w := w2) (.cells #[.int .i64 (n : Int), .map (some (w1.heap.size + 1 + 1 + 1))] 103))
  have Hp2 := Lib.hid hP2
  have hlt2 := (Hp.out.below hB2).lt
  obtain ⟨_, o1, _, _, _⟩ := Hp.out.below hB2
  have z1 : w.heap.size + 1 < w2.heap.size := by omega
  obtain ⟨q0, hq⟩ : ∃ q, decide (xs.length ≤ n) = q := ⟨_, rfl⟩
  clear hB2 hP2 r0 r1 r2 r3 r4 r5 a0 f0
  go_wp2_with fail
  have Hq := Lib.hid hq
  clear hq
  obtain ⟨W, hW⟩ : ∃ W, w2.alloc (.cells #[.int .i64 (n : Int), .map (some (w1.heap.size + 1 + 1 + 1))] 103) = W := ⟨_, rfl⟩
  have hz3 : w2.heap.size < (w2.alloc (.cells #[.int .i64 (n : Int), .map (some (w1.heap.size + 1 + 1 + 1))] 103)).heap.size := by simp
  rw [hW] at Hp2 hM3 hL3 hz3 ⊢
  clear hW o1 z1
  generalize hL : w2.heap.size = L at *
  generalize hm : w1.heap.size + 1 + 1 + 1 = m at *
  have hmL : m < L := by omega
  have hm1 : w.heap.size + 1 + 1 < m := by omega
  clear hL hm hm2
  have HM3 := Lib.hid hM3
  have HL3 := Lib.hid hL3
  clear hM3 hL3
  go_loopw [12, 40] (fun ok i wr => ∃ k : Nat, k ≤ xs.length ∧ i = .int .i64 k ∧ ok = .bool (q0 && (xs.take k).all barB) ∧ Below W.heap.size W wr) (fun _ i _ => (xs.length - (intOf i).toNat))
  case atStart => exact ⟨0, by omega, rfl, by simp, Below.refl _ _⟩
  case round =>
    obtain ⟨k, hk, rfl, rfl, hB⟩ := hrel
    by_cases hlt : k < xs.length
    · have hk1 : (k : Int) < (xs.length : Int) := by omega
      have hk0 : (0 : Int) ≤ (k : Int) := by omega
      obtain ⟨oa2, oc2, he, hx⟩ := Hxs.out.below (below_trans Hp2.out.2.2.2.2 hB)
      obtain ⟨b', off, ha, hc⟩ := hx k xs[k] (by simp [hlt])
      obtain rfl : oa = some ⟨b', off, none⟩ := by injection he with he; rw [he, ha]
      have hbl := hc.lt
      have Hn : Hid ((q0 && (xs.take (k + 1)).all barB) = ((q0 && (xs.take k).all barB) && barB xs[k])) := by
        show _ = _
        rw [List.take_succ_eq_append_getElem hlt, List.all_append]; simp [Bool.and_assoc]
      generalize xs[k] = x at hc Hn
      obtain ⟨c0, c1, c2, c3⟩ := hc
      clear hx he ha
      have hBa := (below_alloc (w := wr) (.cells #[.int .i64 x.b0, .int .i64 x.b1, .int .i64 x.b2, .int .i64 x.b3] 24))
      generalize (q0 && (xs.take k).all barB) = q1 at Hn ⊢
      cases q1 with
      | false =>
        have Hfin : Hid (Below W.heap.size W (wr.alloc (.cells #[.int .i64 x.b0, .int .i64 x.b1, .int .i64 x.b2, .int .i64 x.b3] 24))) := below_trans hB hBa
        clear hB hBa
        go_wp2_with fail
        go_roundw
        case rel => exact ⟨k + 1, by omega, by go_num, by rw [Hn.out]; rfl, Hfin.out⟩
        case measure => simp [intOf]; omega
      | true =>
        generalize hbx : barB x = q2 at Hn
        have Hbx := Lib.hid hbx
        clear hbx
        go_wp2_with fail
        refine (isBarrel_is x _ Hbx.out).mono ?_
        rintro e w5 ⟨rfl, hB5⟩
        have Hfin := Lib.hid (below_trans (below_trans hB hBa) hB5)
        clear hB hBa hB5
        go_wp2_with fail
        go_roundw
        case rel => exact ⟨k + 1, by omega, by go_num, by rw [Hn.out]; rfl, Hfin.out⟩
        case measure => simp [intOf]; omega
    · have He : Hid (okOpened n xs = (q0 && (xs.take k).all barB)) := by
        show okOpened n xs = _
        rw [okOpened, List.take_of_length_le (by omega), ← Hq.out]; simp
      rw [← He.out]
      have hP5 := Hp2.out.below hB
      have Hp5 := Lib.hid (hP5.set (-1))
      have hlt5 := hP5.lt
      have HM5 := Lib.hid ((HM3.out.kept (grown_of_below hB none) (by simp)).setCell (a := ⟨w.heap.size + 1 + 1, 0, none⟩) (by simp; omega) (.int .i64 (-1)))
      have hL5 := HL3.out.below hB hz3
      have HL5 : Hid (TwoAt (wr.setCell ⟨w.heap.size + 1 + 1, 0, none⟩ (.int .i64 (-1))) L (.int .i64 (n : Int)) (.map (some m))) :=
        ⟨(World.cell?_setCell_far _ _ _ _ (by simp; omega)).trans hL5.1, (World.cell?_setCell_far _ _ _ _ (by simp; omega)).trans hL5.2⟩
      obtain ⟨_, o5, a1, f1, _⟩ := hP5
      obtain ⟨l0, l1⟩ := hL5
      rw [H3.out]
      clear hB
      go_wp2_with fail
      refine ((callsIn_wide (n := 3)).1 (plans_in Fence.wide 3 trivial rfl _ _ _)).mono ?_
      rintro e w6 ⟨rfl, rfl⟩
      go_wp2_with fail
      have hbb := below_alloc (w := wr.setCell ⟨w.heap.size + 1 + 1, 0, none⟩ (.int .i64 (-1))) (.cells #[.int .i64 (n : Int), .map (some m)] 103)
      have hP6 := Hp5.out.below hbb
      have hM6 := HM5.out.kept (grown_of_below hbb none) (by simp)
      have hLw : L < (wr.setCell ⟨w.heap.size + 1 + 1, 0, none⟩ (.int .i64 (-1))).heap.size := World.block_lt_of_cell? _ _ HL5.out.1
      have hL6 := HL5.out.below hbb hLw
      have hC6 : ((wr.setCell ⟨w.heap.size + 1 + 1, 0, none⟩ (.int .i64 (-1))).alloc (.cells #[.int .i64 (n : Int), .map (some m)] 103)).cell? ⟨wr.heap.size, 0, none⟩ = some (.int .i64 (n : Int)) := by go_simp
      have hz6 : ((wr.setCell ⟨w.heap.size + 1 + 1, 0, none⟩ (.int .i64 (-1))).alloc (.cells #[.int .i64 (n : Int), .map (some m)] 103)).heap.size = wr.heap.size + 1 := by simp
      have hz7 : m < wr.heap.size := by have := World.block_lt_of_cell? _ _ l0; simp only at this; omega
      obtain ⟨W0, hW0⟩ : ∃ W0, (wr.setCell ⟨w.heap.size + 1 + 1, 0, none⟩ (.int .i64 (-1))).alloc (.cells #[.int .i64 (n : Int), .map (some m)] 103) = W0 := ⟨_, rfl⟩
      rw [hW0] at hP6 hM6 hL6 hC6 hz6 ⊢
      clear hW0 hbb l0 l1 o5 a1 f1
      generalize hPb : wr.heap.size = Pb at *
      have hz8 : Pb < W0.heap.size := by omega
      clear hz6 hPb
      refine (wpIn_wide (n := 9)).1 (wpIn_rangeFunc_ownH (F := Fence.wide) (n := 9) rfl (by omega) (gf := 98) (lb := #[.pointer (some ⟨Pb, 0, none⟩)]) rfl trivial (enters_of Try.func98 (by kernel_rfl) rfl)
        (plans_stops Fence.wide 8 trivial rfl (by omega) Pb n (by omega) W0 hz8 hC6) (fun _ _ => trivial) (fun _ _ _ _ _ _ _ _ => trivial) (Below.refl _ _) (fun _ => rfl)
        (fun pre W' => PromB w ⟨g, po, pi, b, fo, fi⟩ (.slice oa xs.length oc) (allowFold n ⟨g, po, pi, b, fo, fi⟩ xs.length (pre.map (·.1))) W' ∧ TwoAt W' L (.int .i64 (n : Int)) (.map (some m)) ∧ Memo W' m ∧ W0.heap.size ≤ W'.heap.size)
        (fun _ _ _ => False)
        ?hI (fun _ _ _ _ _ h _ _ => h) ?h0
        (fun x a' W' => ∃ Bx, W0.heap.size ≤ Bx ∧ TwoAt W' Bx (.int .i64 (x.1.1 : Int)) (.int .i64 (x.1.2 : Int)) ∧ a' = { tmps := #[v, .int .i64 (n : Int), rlV ⟨g, po, pi, b, fo, fi⟩, .slice oa xs.length oc, undef, undef, .pointer (some ⟨w.heap.size, 0, none⟩), .pointer (some ⟨w.heap.size + 1, 0, none⟩), .int .i64 0, .pointer (some ⟨w.heap.size + 1 + 1, 0, none⟩), .int .i64 0, .pointer (some ⟨L, 0, none⟩), .bool true, undef, u14, .pointer (some ⟨Bx, 0, none⟩), undef, undef, undef, undef, undef, undef, v, .bool true, .bool false, .tuple #[lotV (n : Int) m, .int .i64 0], .int .i64 (n : Int), .agg #[.int .i64 g, .int .i64 po, .int .i64 pi, .int .i64 b, .int .i64 fo, .int .i64 fi], .tuple #[lotV (n : Int) m, .int .i64 0], lotV (n : Int) m, .int .i64 0, .int .i64 0, .bool false, undef, .slice oa xs.length oc, .int .i64 (xs.length : Int), .int .i64 (n : Int), .bool q0, .slice oa xs.length oc, .int .i64 (xs.length : Int), .int .i64 (k : Int), .bool false, u42, u43, u44, u45, u46, u47, u48, u49, .bool true, .bool false, .agg #[.int .i64 (n : Int), .map (some m)], .func (.func 98) #[] #[.pointer (some ⟨Pb, 0, none⟩)], planV (x.1.1 : Int) (x.1.2 : Int), undef, undef, undef, undef, undef, undef, undef, undef, undef, undef, undef, undef, undef, undef, undef, undef, undef, undef, undef, undef, undef, undef, undef, undef, undef, undef, undef, undef, undef, undef, undef, undef, undef, undef, undef, undef, undef, undef, undef, undef], defers := [] })
        ?hAx ?assign ?body ?done ?stop)
      case hI =>
        rintro s A B row ⟨hP, hT, hM, hs⟩ hg hr
        exact ⟨hP.own (by omega) _ _ _ hg hr, ⟨cell_kept hT.1 hg (fun r e => (hr r e).2), cell_kept hT.2 hg (fun r e => (hr r e).2)⟩, hM.kept hg (fun e => by have := (hr _ e.symm).1; omega), Nat.le_trans hs hg.size⟩
      case h0 => exact ⟨hP6, hL6, hM6, Nat.le_refl _⟩
      case hAx =>
        rintro x a' _ A B row ⟨Bx, hBx, hT, ha⟩ hg hr
        exact ⟨Bx, hBx, ⟨cell_kept hT.1 hg (fun r e => (hr r e).2), cell_kept hT.2 hg (fun r e => (hr r e).2)⟩, ha⟩
      case assign =>
        rintro l pre x W' K ⟨hP, hT, hM, hs⟩ hK
        have Hk := Lib.hid hK
        clear hK
        gi_wp2
        have hlL : L < W'.heap.size := World.block_lt_of_cell? _ _ hT.1
        exact Hk.out _ _ ((KeepsOthers.alloc _ _).from _) trivial ⟨hP.below (below_alloc _), hT.below (below_alloc _) hlL, hM.kept (World.grownBy_alloc _ _ none) (by simp), by simp; omega⟩ ⟨W'.heap.size, hs, by unfold TwoAt; go_simp, rfl⟩
      case body =>
        rintro l pre x a' W' hl ⟨rr, hr⟩ ⟨hP, hT, hM, hs⟩ ⟨Bx, hBx, hTx, rfl⟩ hlen
        obtain ⟨x1, x2⟩ := x
        obtain ⟨xo, xa⟩ := x1
        have Hf := Lib.hid (allowFold_snoc n ⟨g, po, pi, b, fo, fi⟩ xs.length (pre.map (·.1)) (xo, xa))
        have hmap : (pre ++ [(⟨(xo, xa), x2⟩ : Pl n)]).map (·.1) = pre.map (·.1) ++ [(xo, xa)] := by simp
        have Hmap := Lib.hid hmap
        clear hmap
        simp only at x2 hTx
        have HP := Lib.hid hP
        have HT := Lib.hid hT
        have HM := Lib.hid hM
        have hPl := hP.lt
        obtain ⟨⟨r0, r1, r2, r3, r4, r5⟩, o6, a2, f2, _⟩ := hP
        obtain ⟨l0, l1⟩ := hT
        obtain ⟨t0, t1⟩ := hTx
        clear hM
        by_cases he : xo = xs.length
        · subst he
          obtain ⟨q, hq⟩ : ∃ q, keepsB n ⟨g, po, pi, b, fo, fi⟩ (xs.length : Int) (xa : Int) = q := ⟨_, rfl⟩
          have HQ := Lib.hid hq
          clear hq
          gi_wp2_with fail
          refine ⟨trivial, ?_⟩
          refine (CallsIn.inRound l (callsIn_wide.2 (keeps_any n _ ⟨g, po, pi, b, fo, fi⟩ xs.length xa _ (by omega) g2 (by omega) (by omega) (by omega) H2.out HM.out))).mono ?_
          rintro e w7 ⟨rfl, hM7, hG7⟩
          rw [HQ.out]
          have hP7 := HP.out.step HM.out hG7 (by omega)
          have hK7 : KeepsFrom W0.heap.size W' w7 := KeepsFrom.of_grownBy hG7 (fun j e => by cases e; omega)
          have hT7 := HT.out.grown hG7 (by omega)
          have hs7 := Nat.le_trans hs hG7.size
          cases q with
          | false =>
            have Hfin : Hid (PromB w ⟨g, po, pi, b, fo, fi⟩ (.slice oa xs.length oc) (allowFold n ⟨g, po, pi, b, fo, fi⟩ xs.length ((pre ++ [(⟨(xs.length, xa), x2⟩ : Pl n)]).map (·.1))) w7 ∧ TwoAt w7 L (.int .i64 (n : Int)) (.map (some m)) ∧ Memo w7 m ∧ W0.heap.size ≤ w7.heap.size) := by
              show _ ∧ _
              rw [Hmap.out, Hf.out, HQ.out]
              simp only [Bool.and_false, Bool.false_eq_true, if_false]
              exact ⟨hP7, hT7, hM7, hs7⟩
            have Hk7 := Lib.hid hK7
            clear hP7 hT7 hM7 hs7 hK7 hG7
            gi_wp2_with fail
            exact ⟨Hk7.out, trivial, Hfin.out⟩
          | true =>
            have hP7' := hP7
            obtain ⟨_, _, a3, f3, _⟩ := hP7'
            have t1' := hG7.cell t1 (by simp; omega)
            have hP8 := Lib.hid (hP7.set (xa : Int))
            have hlt7 := hP7.lt
            have hlc := hM7.lt
            have HM8 := Lib.hid (hM7.setCell (a := ⟨w.heap.size + 1 + 1, 0, none⟩) (by simp; omega) (.int .i64 (xa : Int)))
            have HT8 : Hid (TwoAt (w7.setCell ⟨w.heap.size + 1 + 1, 0, none⟩ (.int .i64 (xa : Int))) L (.int .i64 (n : Int)) (.map (some m))) :=
              ⟨(World.cell?_setCell_far _ _ _ _ (by simp; omega)).trans hT7.1, (World.cell?_setCell_far _ _ _ _ (by simp; omega)).trans hT7.2⟩
            have Hs7 := Lib.hid hs7
            have Hk7 := Lib.hid (hK7.trans ((KeepsOthers.setCell w7 ⟨w.heap.size + 1 + 1, 0, none⟩ (.int .i64 (xa : Int))).from _))
            clear hP7 hT7 hM7 hs7 hK7 hG7
            gi_wp2_with fail
            refine ⟨Hk7.out, trivial, ?_, HT8.out, HM8.out, by simpa using Hs7.out⟩
            rw [Hmap.out, Hf.out, HQ.out]
            simp only [beq_self_eq_true, Bool.and_self, if_true]
            exact hP8.out
        · have Hfin : Hid (PromB w ⟨g, po, pi, b, fo, fi⟩ (.slice oa xs.length oc) (allowFold n ⟨g, po, pi, b, fo, fi⟩ xs.length ((pre ++ [(⟨(xo, xa), x2⟩ : Pl n)]).map (·.1))) W' ∧ TwoAt W' L (.int .i64 (n : Int)) (.map (some m)) ∧ Memo W' m ∧ W0.heap.size ≤ W'.heap.size) := by
            show _ ∧ _
            rw [Hmap.out, Hf.out]
            simp only [beq_eq_false_iff_ne.2 he, Bool.false_and, Bool.false_eq_true, if_false]
            exact ⟨HP.out, HT.out, HM.out, hs⟩
          gi_wp2_with fail
          refine ⟨trivial, ?_⟩
          gi_wp2_with fail
          exact ⟨KeepsFrom.refl _ _, trivial, Hfin.out⟩
      case done =>
        rintro D ps W' hD hS ⟨hP, hT, hM, hs⟩ hK
        clear hT hM
        rw [hS] at hP
        obtain ⟨al, hal⟩ : ∃ al, allowFold n ⟨g, po, pi, b, fo, fi⟩ xs.length (rows (n + 1)) = al := ⟨_, rfl⟩
        rw [hal] at hP
        have Hal := Lib.hid hal
        clear hal hS
        obtain ⟨ma, mc, rfl, hmm⟩ := Hms0.out.below hP.2.2.2.2
        have Hmm : Hid (MarksAt W' (.slice ma ms.length mc) ms) := ⟨_, _, rfl, hmm⟩
        have HP := Lib.hid hP
        have HK := Lib.hid hK
        have hDl : D < W'.heap.size := (Array.getElem?_eq_some_iff.1 hK).1
        clear hmm hP hK
        go_wp2_with fail
        go_loopw [70] (fun i wr => ∃ k : Nat, k ≤ ms.length ∧ i = .int .i64 k ∧ Hid (∀ i m, i < k → ms[i]? = some m → al < (belowOf m xs : Int)) ∧ Below W'.heap.size W' wr) (fun i _ => (ms.length - (intOf i).toNat))
        case atStart => exact ⟨0, by omega, rfl, fun i m hi => by omega, Below.refl _ _⟩
        case round =>
          obtain ⟨k, hk, rfl, hall, hB⟩ := hrel
          by_cases hlt : k < ms.length
          · have hk1 : (k : Int) < (ms.length : Int) := by omega
            have hk0 : (0 : Int) ≤ (k : Int) := by omega
            obtain ⟨ma2, mc2, he, hmm⟩ := Hmm.out.below hB
            obtain ⟨b', off, ha, hc⟩ := hmm k ms[k] (by simp [hlt])
            obtain rfl : ma = some ⟨b', off, none⟩ := by injection he with he; rw [he, ha]
            have hbl := hc.lt
            have Hnx : Hid (al < (belowOf ms[k] xs : Int) → ∀ i m, i < k + 1 → ms[i]? = some m → al < (belowOf m xs : Int)) := fun h i m hi hm => by
              by_cases e : i = k
              · subst e; rw [List.getElem?_eq_getElem hlt] at hm; cases hm; exact h
              · exact hall.out i m (by omega) hm
            have Hfs : Hid ((belowOf ms[k] xs : Int) ≤ al → promised al ms xs = some k) := fun h => by
              unfold promised
              rw [List.findIdx?_eq_some_iff_getElem]
              exact ⟨hlt, by simpa using h, fun j hj => by simpa using hall.out j ms[j] hj (by simp [show j < ms.length by omega])⟩
            generalize ms[k] = mk at hc Hnx Hfs
            obtain ⟨c0, c1, c2, c3, c4, c5, c6, c7⟩ := hc
            have hP2 := HP.out.below hB
            have hB1 := below_more hB (.cells #[.int .i64 mk.s0.lo, .int .i64 mk.s0.hi, .int .i64 mk.s1.lo, .int .i64 mk.s1.hi, .int .i64 mk.s2.lo, .int .i64 mk.s2.hi, .int .i64 mk.s3.lo, .int .i64 mk.s3.hi] 62)
            have HP2 := Lib.hid hP2
            obtain ⟨_, o7, _, _, _⟩ := hP2
            have hov : w.heap.size + 1 < wr.heap.size := World.block_lt_of_cell? _ _ o7
            clear hmm he ha hall
            go_wp2_with fail
            obtain ⟨W2, hW2⟩ : ∃ W2, wr.alloc (.cells #[.int .i64 mk.s0.lo, .int .i64 mk.s0.hi, .int .i64 mk.s1.lo, .int .i64 mk.s1.hi, .int .i64 mk.s2.lo, .int .i64 mk.s2.hi, .int .i64 mk.s3.lo, .int .i64 mk.s3.hi] 62) = W2 := ⟨_, rfl⟩
            rw [hW2] at hB1 ⊢
            clear hW2 o7 hov
            go_loopw [19, 79] (fun c i wb => ∃ j : Nat, j ≤ xs.length ∧ i = .int .i64 j ∧ c = .int .i64 (belowOf mk (xs.take j) : Int) ∧ Below W'.heap.size W' wb) (fun _ i _ => (xs.length - (intOf i).toNat))
            case atStart => exact ⟨0, by omega, rfl, rfl, hB1⟩
            case round =>
              clear hB hB1
              obtain ⟨j, hj, rfl, rfl, hBr⟩ := hrel
              by_cases hjl : j < xs.length
              · have hj1 : (j : Int) < (xs.length : Int) := by omega
                have hj0 : (0 : Int) ≤ (j : Int) := by omega
                obtain ⟨oa2, oc2, he, hx⟩ := Hxs.out.below (HP.out.below hBr).2.2.2.2
                obtain ⟨b2, off2, ha, hc⟩ := hx j xs[j] (by simp [hjl])
                obtain rfl : oa = some ⟨b2, off2, none⟩ := by injection he with he; rw [he, ha]
                have hbl2 := hc.lt
                have Hn : Hid (belowOf mk (xs.take (j + 1)) = belowOf mk (xs.take j) + (if belowB mk xs[j] then 1 else 0)) := by
                  show _ = _
                  unfold belowOf
                  rw [List.take_succ_eq_append_getElem hjl, List.filter_append, List.length_append]
                  congr 1
                  rw [List.filter_cons]
                  split <;> rfl
                have hcl : belowOf mk (xs.take j) ≤ j := Nat.le_trans (List.length_filter_le _ _) (by simp; omega)
                generalize belowOf mk (xs.take j) = c at hcl Hn ⊢
                generalize xs[j] = x at hc Hn
                obtain ⟨d0, d1, d2, d3⟩ := hc
                have hB3 := below_more hBr (.cells #[.int .i64 x.b0, .int .i64 x.b1, .int .i64 x.b2, .int .i64 x.b3] 24)
                obtain ⟨q, hq⟩ : ∃ q, belowB mk x = q := ⟨_, rfl⟩
                have HQ := Lib.hid hq
                clear hx he ha hq
                go_wp2_with fail
                refine (isBelow_is mk x _ HQ.out).mono ?_
                rintro e w8 ⟨rfl, hB8⟩
                have hB9 := below_trans hB3 hB8
                clear hBr hB3 hB8
                cases q with
                | false =>
                  go_wp2_with fail
                  go_roundw
                  case rel => exact ⟨j + 1, by omega, by go_num, by rw [Hn.out, HQ.out]; simp, hB9⟩
                  case measure => simp [intOf]; omega
                | true =>
                  go_wp2_with fail
                  go_roundw
                  case rel => exact ⟨j + 1, by omega, by go_num, by rw [Hn.out, HQ.out]; go_num, hB9⟩
                  case measure => simp [intOf]; omega
              · obtain rfl : j = xs.length := by omega
                rw [List.take_length]
                generalize hcn : belowOf mk xs = c at Hnx Hfs ⊢
                clear hcn
                have hP9 := HP.out.below hBr
                have HP9 := Lib.hid hP9
                obtain ⟨_, _, a9, f9, _⟩ := hP9
                have hlt9 := HP9.out.lt
                by_cases hle : (c : Int) ≤ al
                · have Hp := Lib.hid (Hfs.out hle)
                  have hK9 := (hBr.block D hDl).trans HK.out
                  have HK9 := Lib.hid hK9
                  clear hBr hK9 Hnx Hfs
                  go_wp2_with fail
                  go_region
                  all_goals (go_wp2_with fail)
                  have hK' : (wr.setCell ⟨w.heap.size + 1 + 1, 0, none⟩ (.int .i64 al)).drew.heap[D]? = some (.deferred (some [])) := by
                    show (wr.setCell ⟨w.heap.size + 1 + 1, 0, none⟩ (.int .i64 al)).heap[D]? = _
                    rw [Below.heap_setCell _ _ _ _ (by simp; omega)]; exact HK9.out
                  have e0 := cell_putObj hK' rfl (o' := .deferred none) (a := ⟨w.heap.size + 1 + 1, 0, none⟩) (v := .int .i64 al) (by go_simp)
                  have hB4 := (HP9.out.set al).2.2.2.2.drew.trans (belowK_b (w := w) (Nat.le_refl _) _ D _ (.deferred none) (by omega) hK' rfl rfl)
                  refine ⟨by simp, .inl ⟨_, _, rfl, run_takeDeferred hK', ?_⟩⟩
                  exact ⟨promV ((k : Int), al, 0), by simp [results, Try.results37, go_sem, e0], by rw [Hres.out, Hal.out, Hp.out]; rfl, hB4⟩
                · have Hn := Lib.hid (Hnx.out (by omega))
                  have HBr := Lib.hid hBr
                  clear Hnx Hfs hBr
                  go_wp2_with fail
                  go_roundw
                  case rel => exact ⟨k + 1, by omega, by go_num, Hn.out, HBr.out⟩
                  case measure => simp [intOf]; omega
          · obtain rfl : k = ms.length := by omega
            have Hp : Hid (promised al ms xs = none) := by
              show _ = _
              unfold promised
              rw [List.findIdx?_eq_none_iff]
              intro m hm
              obtain ⟨i, hi, rfl⟩ := List.getElem_of_mem hm
              simpa using hall.out i ms[i] hi (by simp [hi])
            have hP9 := HP.out.below hB
            have HP9 := Lib.hid hP9
            have hK9 := (hB.block D hDl).trans HK.out
            have HK9 := Lib.hid hK9
            obtain ⟨_, _, a9, f9, _⟩ := hP9
            have hlt9 := HP9.out.lt
            clear hB hK9
            go_wp2_with fail
            have hK' : (wr.setCell ⟨w.heap.size + 1 + 1, 0, none⟩ (.int .i64 0)).heap[D]? = some (.deferred (some [])) := by
              rw [Below.heap_setCell _ _ _ _ (by simp; omega)]; exact HK9.out
            have e0 := cell_putObj hK' rfl (o' := .deferred none) (a := ⟨w.heap.size + 1 + 1, 0, none⟩) (v := .int .i64 0) (by go_simp)
            have hB4 := (HP9.out.set 0).2.2.2.2.trans (belowK_b (w := w) (Nat.le_refl _) _ D _ (.deferred none) (by omega) hK' rfl rfl)
            refine ⟨by simp, .inl ⟨_, _, rfl, run_takeDeferred hK', ?_⟩⟩
            exact ⟨promV (0, 0, 4), by simp [results, Try.results37, go_sem, e0], by rw [Hres.out, Hal.out, Hp.out]; rfl, hB4⟩
      case stop =>
        rintro D c pre W' _ _ h _
        exact h.elim

/-- 'Promise', at whatever lists. -/
theorem promise_any (v ov : Value) (ms : List Mk) (xs : List Br) (N : Int) (r : Rl) (w : World) (hms : MarksAt w v ms) (hlen : ms.length ≤ 140737488351232) (hxs : BrsAt w ov xs) (hlx : xs.length ≤ 140737488351232) :
    Calls Try.prog 37 #[v, .int .i64 N, rlV r, ov] w fun e w' => e = .returned (promV (promiseR ms N r xs)) ∧ Below w.heap.size w w' := by
  have hov : ∃ a n c, ov = .slice a n c := by obtain ⟨a, c, h, _⟩ := hxs; exact ⟨a, _, c, h⟩
  cases h : marksB ms with
  | false =>
    have e : promiseR ms N r xs = (0, 0, 70) := by unfold promiseR; rw [h, if_neg (by simp)]
    rw [e]; exact promise_marks v ov ms N r w hms hlen hov h
  | true =>
    cases h1 : inB N 1 40 with
    | false =>
      have e : promiseR ms N r xs = (0, 0, 7) := by unfold promiseR; rw [h, h1, if_pos rfl, if_neg (by simp)]
      rw [e]; exact promise_range v ov ms N r w hms hlen hov h h1
    | true =>
      cases h2 : ruleB N r with
      | false =>
        have e : promiseR ms N r xs = (0, 0, 71) := by unfold promiseR; rw [h, h1, h2, if_pos rfl, if_pos rfl, if_neg (by simp)]
        rw [e]; exact promise_rule v ov ms N r w hms hlen hov h h1 h2
      | true =>
        cases h3 : okOpened N xs with
        | false =>
          have e : promiseR ms N r xs = (0, 0, 73) := by unfold promiseR; rw [h, h1, h2, h3, if_pos rfl, if_pos rfl, if_pos rfl, if_neg (by simp)]
          rw [e]; exact promise_opened v ov ms xs N r w hms hlen hxs hlx h h1 h2 h3
        | true => exact promise_main v ov ms xs N r w hms hlen hxs hlx h h1 h2 h3

end Go.Proofs.Ythpllmefbhjmmaa
